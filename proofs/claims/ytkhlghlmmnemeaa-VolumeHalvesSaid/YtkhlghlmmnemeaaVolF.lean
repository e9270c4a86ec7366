import Derived.Test.YtkhlghlmmnemeaaVolE
namespace Go.Proofs.Ytkhlghlmmnemeaa
open Go Go.R
theorem volumeTells_ok (n : Int) (_ : IntKind.i64.has n) (v : Nat → Int) (_ : ∀ i, i < 3 → IntKind.i64.has (v i)) : evCallH Try.prog [sLevel, sRLevel, sGain, sRGain] [] 100 3 [.int .i64 n, .aggi .i64 3 v] [] asB = some true := by
  refine (lawTells_ev n v).trans ?_
  rw [beq_self_eq_true, beq_self_eq_true]; rfl
def fallsT (a b c g : Int) : Option Bool :=
  cond (decide (g < 0)) (some false) (cond (decide (g > 1024)) (some false) (cond (gain 0 b c != 0) (some false) (cond (a == 31) (cond (b == 15) (cond (c == 15) (some (gain a b c == gain a c b)) (cond (decide (gain a b (wr Go.IntKind.i64 (c + 1)) ≥ g)) (some (gain a b c == gain a c b)) (some false))) (cond (decide (gain a (wr Go.IntKind.i64 (b + 1)) c ≥ g)) (cond (c == 15) (some (gain a b c == gain a c b)) (cond (decide (gain a b (wr Go.IntKind.i64 (c + 1)) ≥ g)) (some (gain a b c == gain a c b)) (some false))) (some false))) (cond (decide (gain (wr Go.IntKind.i64 (a + 1)) b c ≥ g)) (cond (b == 15) (cond (c == 15) (some (gain a b c == gain a c b)) (cond (decide (gain a b (wr Go.IntKind.i64 (c + 1)) ≥ g)) (some (gain a b c == gain a c b)) (some false))) (cond (decide (gain a (wr Go.IntKind.i64 (b + 1)) c ≥ g)) (cond (c == 15) (some (gain a b c == gain a c b)) (cond (decide (gain a b (wr Go.IntKind.i64 (c + 1)) ≥ g)) (some (gain a b c == gain a c b)) (some false))) (some false))) (some false)))))
theorem falls_all : ∀ (a : Fin 32) (b c : Fin 16), fallsT ((a.val : Nat) : Int) ((b.val : Nat) : Int) ((c.val : Nat) : Int) (gain ((a.val : Nat) : Int) ((b.val : Nat) : Int) ((c.val : Nat) : Int)) = some true := by decide +kernel
theorem lev_all : ∀ (a : Fin 256), lev ((a.val : Nat) : Int) ≥ lev (wr .i64 (((a.val : Nat) : Int) + 1)) := by decide +kernel
theorem volumeFalls_ok (n : Int) (_ : IntKind.i64.has n) (v : Nat → Int) (_ : ∀ i, i < 3 → IntKind.i64.has (v i)) :
    evCallH Try.prog [sLevel, sRLevel, sGain, sRGain] [(13, .int .i64 (v 0 % 32)), (16, .int .i64 (v 1 % 16)), (19, .int .i64 (v 2 % 16)), (23, .int .i64 (gain (v 0 % 32) (v 1 % 16) (v 2 % 16)))] 100 4 [.int .i64 n, .aggi .i64 3 v] [] asB = some true := by
  refine (lawFalls_ev n v _ _ _ _).trans ?_
  rw [and_m5, and_m4, and_m4, and_m8]
  simp only [beq_self_eq_true, cond_true]
  have h1 := lev_all ⟨(n % 256).toNat, by omega⟩
  have h2 := falls_all ⟨(v 0 % 32).toNat, by omega⟩ ⟨(v 1 % 16).toNat, by omega⟩ ⟨(v 2 % 16).toNat, by omega⟩
  simp only at h1 h2
  rw [Int.toNat_of_nonneg (by omega)] at h1
  rw [Int.toNat_of_nonneg (by omega), Int.toNat_of_nonneg (by omega), Int.toNat_of_nonneg (by omega)] at h2
  rw [decide_eq_false (by omega), cond_false]
  exact h2
def halvesD (m : Int) : Bool := !(decide (wr Go.IntKind.i64 (lev m - wr Go.IntKind.i64 (2 * lev (wr Go.IntKind.i64 (m + 4)))) < -2)) && !(decide (wr Go.IntKind.i64 (lev m - wr Go.IntKind.i64 (2 * lev (wr Go.IntKind.i64 (m + 4)))) > 2))
def halvesT (v c : Int) : Option Bool :=
  (cond (gain v c 15 == lev (wr Go.IntKind.i64 (wr Go.IntKind.i64 (31 - v) + wr Go.IntKind.i64 (2 * wr Go.IntKind.i64 (15 - c))))) (cond (gain v 15 c == gain v c 15) (cond (decide (v < 2)) (some true) (cond (c == 15) (some true) (some (gain (wr Go.IntKind.i64 (v - 2)) 15 15 == gain v 14 15)))) (some false)) (some false))
theorem halves_m : ∀ (m : Fin 27), halvesD ((m.val : Nat) : Int) = true := by decide +kernel
theorem halves_all : ∀ (v : Fin 32) (c : Fin 16), halvesT ((v.val : Nat) : Int) ((c.val : Nat) : Int) = some true := by decide +kernel
theorem volumeHalves_ok (n : Int) (_ : IntKind.i64.has n) (u : Int) (_ : IntKind.i64.has u) (b : Int) (_ : IntKind.i64.has b) :
    evCallH Try.prog [sLevel, sRLevel, sGain, sRGain] [(11, .int .i64 (n % 27)), (13, .int .i64 (u % 32)), (15, .int .i64 (b % 16))] 100 5 [.int .i64 n, .int .i64 u, .int .i64 b] [] asB = some true := by
  refine (lawHalves_ev n u b _ _ _).trans ?_
  have e : (wr Go.IntKind.i64 (n.tmod 27 + 27)).tmod 27 = n % 27 := by
    have h1 : n.tmod 27 = if 0 ≤ n ∨ (27 : Int) ∣ n then n % 27 else n % 27 - 27 := by rw [Int.tmod_eq_emod]; split <;> omega
    have h2 := Int.emod_nonneg n (show (27 : Int) ≠ 0 by decide)
    have h3 := Int.emod_lt_of_pos n (show (0 : Int) < 27 by decide)
    rw [wrap_id (by split at h1 <;> omega) (by split at h1 <;> omega), Int.tmod_eq_emod_of_nonneg (by split at h1 <;> omega)]
    split at h1 <;> omega
  rw [e, and_m5, and_m4]
  simp only [beq_self_eq_true, cond_true]
  have h1 := halves_m ⟨(n % 27).toNat, by omega⟩
  have h2 := halves_all ⟨(u % 32).toNat, by omega⟩ ⟨(b % 16).toNat, by omega⟩
  simp only at h1 h2
  rw [Int.toNat_of_nonneg (by omega)] at h1
  rw [Int.toNat_of_nonneg (by omega), Int.toNat_of_nonneg (by omega)] at h2
  unfold halvesD at h1
  simp only [Bool.and_eq_true, Bool.not_eq_true'] at h1
  rw [h1.1, h1.2, cond_false, cond_false]
  exact h2
end Go.Proofs.Ytkhlghlmmnemeaa
