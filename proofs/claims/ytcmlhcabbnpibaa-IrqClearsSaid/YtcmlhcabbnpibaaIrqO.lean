import Derived.Test.YtcmlhcabbnpibaaIrqN
import Derived.Test.YtcmlhcabbnpibaaIrqM
set_option linter.unusedVariables false
set_option linter.unusedSimpArgs false
namespace Go.Proofs.Ytcmlhcabbnpibaa
open Go Go.R
def clearT1 (m l : Int) : Option Bool :=
  (cond (raiseL l 1 true == bitI BinOp.or Go.IntKind.i64 l 1) (cond (raiseL l 1 false == bitI BinOp.andNot Go.IntKind.i64 l 1) (cond (m % 8 % 8 == m % 8 && (raiseL (raiseL l 1 true) 1 false == raiseL l 1 false && true)) (cond (writeL (raiseL l 1 true) 3 == bitI BinOp.and Go.IntKind.i64 (raiseL l 1 true) 3) (cond (writeM (m % 8) 3 0 == m) (cond (readN (m % 8) (raiseL l 1 true) 3 == raiseL l 1 true) (some (readN (m % 8) (raiseL l 1 true) 2 == m)) (some false)) (some false)) (some false)) (some false)) (some false)) (some false))
theorem clear1_all : ∀ (m l : Fin 8), clearT1 m.val l.val = some true := by decide +kernel
def clearT2 (m l : Int) : Option Bool :=
  (cond (raiseL l 2 true == bitI BinOp.or Go.IntKind.i64 l 2) (cond (raiseL l 2 false == bitI BinOp.andNot Go.IntKind.i64 l 2) (cond (m % 8 % 8 == m % 8 && (raiseL (raiseL l 2 true) 2 false == raiseL l 2 false && true)) (cond (writeL (raiseL l 2 true) 3 == bitI BinOp.and Go.IntKind.i64 (raiseL l 2 true) 3) (cond (writeM (m % 8) 3 0 == m) (cond (readN (m % 8) (raiseL l 2 true) 3 == raiseL l 2 true) (some (readN (m % 8) (raiseL l 2 true) 2 == m)) (some false)) (some false)) (some false)) (some false)) (some false)) (some false))
theorem clear2_all : ∀ (m l : Fin 8), clearT2 m.val l.val = some true := by decide +kernel
def clearT4 (m l : Int) : Option Bool :=
  (cond (raiseL l 4 true == bitI BinOp.or Go.IntKind.i64 l 4) (cond (raiseL l 4 false == bitI BinOp.andNot Go.IntKind.i64 l 4) (cond (m % 8 % 8 == m % 8 && (raiseL (raiseL l 4 true) 4 false == raiseL l 4 false && true)) (cond (writeL (raiseL l 4 true) 3 == bitI BinOp.and Go.IntKind.i64 (raiseL l 4 true) 3) (cond (writeM (m % 8) 3 0 == m) (cond (readN (m % 8) (raiseL l 4 true) 3 == raiseL l 4 true) (some (readN (m % 8) (raiseL l 4 true) 2 == m)) (some false)) (some false)) (some false)) (some false)) (some false)) (some false))
theorem clear4_all : ∀ (m l : Fin 8), clearT4 m.val l.val = some true := by decide +kernel
theorem irqClears_ok (s : Nat → Int) (_ : ∀ i, i < 2 → IntKind.i64.has (s i)) (k : Int) (_ : IntKind.i64.has k) :
    evCallH Try.prog [sPick, sRaise, sWrite, sRead] [(11, .int .i64 (s 0 % 8)), (14, .int .i64 (s 1 % 8)), (21, .int .i64 (lineK k))] 100 9 [.aggi .i64 2 s, .int .i64 k] [] asB = some true := by
  have hk : k % 3 = 0 ∨ k % 3 = 1 ∨ k % 3 = 2 := by omega
  have m0 : (s 0 % 8).toNat < 8 := by omega
  have l0 : (s 1 % 8).toNat < 8 := by omega
  have em : (((s 0 % 8).toNat : Nat) : Int) = s 0 % 8 := Int.toNat_of_nonneg (by omega)
  have el : (((s 1 % 8).toNat : Nat) : Int) = s 1 % 8 := Int.toNat_of_nonneg (by omega)
  rcases hk with h | h | h
  · have eL : lineK k = 1 := by unfold lineK; rw [h]; rfl
    rw [eL]
    refine (lawClears1_ev s k _ _).trans ?_
    rw [three_k, h, and_m3, and_m3]
    have a := clear1_all ⟨_, m0⟩ ⟨_, l0⟩
    simp only [em, el] at a
    unfold clearT1 at a
    rw [show decide ((0 : Int) ≤ 0) = true from rfl, show (wr Go.IntKind.i64 (1 * 2 ^ min (0 : Int).toNat 64) == 1) = true from rfl, show writeM (s 0 % 8 % 8) 3 k = writeM (s 0 % 8 % 8) 3 0 from rfl]
    simp only [beq_self_eq_true, cond_true]
    exact a
  · have eL : lineK k = 2 := by unfold lineK; rw [h]; rfl
    rw [eL]
    refine (lawClears2_ev s k _ _).trans ?_
    rw [three_k, h, and_m3, and_m3]
    have a := clear2_all ⟨_, m0⟩ ⟨_, l0⟩
    simp only [em, el] at a
    unfold clearT2 at a
    rw [show decide ((0 : Int) ≤ 1) = true from rfl, show (wr Go.IntKind.i64 (1 * 2 ^ min (1 : Int).toNat 64) == 2) = true from rfl, show writeM (s 0 % 8 % 8) 3 k = writeM (s 0 % 8 % 8) 3 0 from rfl]
    simp only [beq_self_eq_true, cond_true]
    exact a
  · have eL : lineK k = 4 := by unfold lineK; rw [h]; rfl
    rw [eL]
    refine (lawClears4_ev s k _ _).trans ?_
    rw [three_k, h, and_m3, and_m3]
    have a := clear4_all ⟨_, m0⟩ ⟨_, l0⟩
    simp only [em, el] at a
    unfold clearT4 at a
    rw [show decide ((0 : Int) ≤ 2) = true from rfl, show (wr Go.IntKind.i64 (1 * 2 ^ min (2 : Int).toNat 64) == 4) = true from rfl, show writeM (s 0 % 8 % 8) 3 k = writeM (s 0 % 8 % 8) 3 0 from rfl]
    simp only [beq_self_eq_true, cond_true]
    exact a
end Go.Proofs.Ytcmlhcabbnpibaa
