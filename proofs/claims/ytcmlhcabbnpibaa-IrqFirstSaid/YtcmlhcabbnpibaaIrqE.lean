import Derived.Test.YtcmlhcabbnpibaaIrqC
namespace Go.Proofs.Ytcmlhcabbnpibaa
open Go Go.R
theorem bt4_mod (x : Int) : bt 4 (x % 8) = bt 4 x := by unfold bt; rw [show x % 8 / 4 % 2 = x / 4 % 2 by omega]
theorem bt2_mod (x : Int) : bt 2 (x % 8) = bt 2 x := by unfold bt; rw [show x % 8 / 2 % 2 = x / 2 % 2 by omega]
theorem bt1_mod (x : Int) : bt 1 (x % 8) = bt 1 x := by unfold bt; rw [show x % 8 / 1 % 2 = x / 1 % 2 by omega]
theorem free_mod (l m : Int) : bitI .and .i64 (bitI .andNot .i64 (l % 8) (m % 8)) 7 = bitI .and .i64 (bitI .andNot .i64 l m) 7 := by
  rw [and_m3, and_m3]
  have h1 := andNot_mod (k := 3) (by decide) (l % 8) (m % 8)
  have h2 := andNot_mod (k := 3) (by decide) l m
  rw [show ((2 ^ 3 : Nat) : Int) = 8 from rfl] at h1 h2
  rw [h1, h2, show l % 8 % 8 = l % 8 by omega, show m % 8 % 8 = m % 8 by omega]
def firstT (l m : Int) (i : Bool) : Option Bool :=
  cond (i) (cond (pickN (i) (bt 4 l) (bt 4 m) (bt 2 l) (bt 2 m) (bt 1 l) (bt 1 m) == 0) (cond (!pickB (i) (bt 4 l) (bt 4 m) (bt 2 l) (bt 2 m) (bt 1 l) (bt 1 m)) (some true) (some false)) (some false)) (cond (bitI BinOp.and Go.IntKind.i64 (bitI BinOp.andNot Go.IntKind.i64 l m) 7 == 0) (cond (pickN (i) (bt 4 l) (bt 4 m) (bt 2 l) (bt 2 m) (bt 1 l) (bt 1 m) == 0) (cond (!pickB (i) (bt 4 l) (bt 4 m) (bt 2 l) (bt 2 m) (bt 1 l) (bt 1 m)) (some true) (some false)) (some false)) (cond (!pickB (i) (bt 4 l) (bt 4 m) (bt 2 l) (bt 2 m) (bt 1 l) (bt 1 m)) (some false) (cond (decide (pickN (i) (bt 4 l) (bt 4 m) (bt 2 l) (bt 2 m) (bt 1 l) (bt 1 m) < 65526)) (some false) (cond (decide (pickN (i) (bt 4 l) (bt 4 m) (bt 2 l) (bt 2 m) (bt 1 l) (bt 1 m) > 65530)) (some false) (cond (bitI BinOp.and Go.IntKind.i64 (pickN (i) (bt 4 l) (bt 4 m) (bt 2 l) (bt 2 m) (bt 1 l) (bt 1 m)) 1 != 0) (some false) (cond (decide (0 ≤ wr .u64 (wr .i64 ((wr .i64 (pickN (i) (bt 4 l) (bt 4 m) (bt 2 l) (bt 2 m) (bt 1 l) (bt 1 m) - 65526)).tdiv 2)))) (some ((bitI BinOp.and Go.IntKind.i64 (bitI BinOp.andNot Go.IntKind.i64 l m) 7).fdiv (2 ^ min (wr .u64 (wr .i64 ((wr .i64 (pickN (i) (bt 4 l) (bt 4 m) (bt 2 l) (bt 2 m) (bt 1 l) (bt 1 m) - 65526)).tdiv 2))).toNat 64) == 1)) none))))))
theorem firstT_all : ∀ (a b : Fin 8) (i : Bool), firstT ((a.val : Nat) : Int) ((b.val : Nat) : Int) i = some true := by decide +kernel
theorem first_all (l m : Int) (i : Bool) : firstT (l % 8) (m % 8) i = some true := by
  have h := firstT_all ⟨(l % 8).toNat, by omega⟩ ⟨(m % 8).toNat, by omega⟩ i
  simp only at h
  rw [Int.toNat_of_nonneg (by omega), Int.toNat_of_nonneg (by omega)] at h
  exact h
theorem irqFirst_ok (s : Nat → Int) (_ : ∀ i, i < 2 → IntKind.i64.has (s i)) (p : Int) (_ : IntKind.i64.has p) : evCallH Try.prog [sPick] [] 100 7 [.aggi .i64 2 s, .int .i64 p] [] asB = some true := by
  refine (lawFirst_ev s p).trans ?_
  have h := first_all (s 1) (s 0) (bt 4 p)
  unfold firstT at h
  simp only [bt4_mod, bt2_mod, bt1_mod, free_mod] at h
  rw [(bt4 p).2]
  exact h
end Go.Proofs.Ytcmlhcabbnpibaa
