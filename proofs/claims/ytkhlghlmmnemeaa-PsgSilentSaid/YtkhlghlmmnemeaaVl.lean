import Derived.Test.YtkhlghlmmnemeaaZ
set_option linter.unusedVariables false
set_option linter.unusedSimpArgs false
namespace Go.Proofs.Ytkhlghlmmnemeaa.Vl
open Go Go.R
theorem level_ev (n : Int) : evCall Try.prog [] 100 13 [.int .i64 n] [] (fun v _ => some v) =
  cond (decide (n > 31)) (some (V.int Go.IntKind.i64 0)) (cond (inR (if 0 > n then 0 else n) 32 && (scaled (if 0 > n then 0 else n) 1 + 1).ble 32) (some (V.int Go.IntKind.i64 (upd (fun j => 0) 0 32 (fun j => toI ([V.int Go.IntKind.i64 1024, V.int Go.IntKind.i64 862, V.int Go.IntKind.i64 725, V.int Go.IntKind.i64 610, V.int Go.IntKind.i64 513, V.int Go.IntKind.i64 432, V.int Go.IntKind.i64 363, V.int Go.IntKind.i64 306, V.int Go.IntKind.i64 257, V.int Go.IntKind.i64 216, V.int Go.IntKind.i64 182, V.int Go.IntKind.i64 153, V.int Go.IntKind.i64 129, V.int Go.IntKind.i64 108, V.int Go.IntKind.i64 91, V.int Go.IntKind.i64 77, V.int Go.IntKind.i64 65, V.int Go.IntKind.i64 54, V.int Go.IntKind.i64 46, V.int Go.IntKind.i64 38, V.int Go.IntKind.i64 32, V.int Go.IntKind.i64 27, V.int Go.IntKind.i64 23, V.int Go.IntKind.i64 19, V.int Go.IntKind.i64 16, V.int Go.IntKind.i64 14, V.int Go.IntKind.i64 11, V.int Go.IntKind.i64 10, V.int Go.IntKind.i64 8, V.int Go.IntKind.i64 7, V.int Go.IntKind.i64 6, V.int Go.IntKind.i64 0].getD j V.nil)) (0 + scaled (if 0 > n then 0 else n) 1)))) none) := by kernel_rfl
theorem rlevel_ev (n : Int) : evCall Try.prog [] 100 14 [.int .i64 n] [] (fun v _ => some v) =
  cond (decide (n < 0)) (some (V.int Go.IntKind.i64 1024)) (cond (decide (n > 31)) (some (V.int Go.IntKind.i64 0)) (cond (inR n 32) (cond ((0 + scaled n 1 + 1).ble 32) (some (V.int Go.IntKind.i64 (toI ([V.int Go.IntKind.i64 1024, V.int Go.IntKind.i64 862, V.int Go.IntKind.i64 725, V.int Go.IntKind.i64 610, V.int Go.IntKind.i64 513, V.int Go.IntKind.i64 432, V.int Go.IntKind.i64 363, V.int Go.IntKind.i64 306, V.int Go.IntKind.i64 257, V.int Go.IntKind.i64 216, V.int Go.IntKind.i64 182, V.int Go.IntKind.i64 153, V.int Go.IntKind.i64 129, V.int Go.IntKind.i64 108, V.int Go.IntKind.i64 91, V.int Go.IntKind.i64 77, V.int Go.IntKind.i64 65, V.int Go.IntKind.i64 54, V.int Go.IntKind.i64 46, V.int Go.IntKind.i64 38, V.int Go.IntKind.i64 32, V.int Go.IntKind.i64 27, V.int Go.IntKind.i64 23, V.int Go.IntKind.i64 19, V.int Go.IntKind.i64 16, V.int Go.IntKind.i64 14, V.int Go.IntKind.i64 11, V.int Go.IntKind.i64 10, V.int Go.IntKind.i64 8, V.int Go.IntKind.i64 7, V.int Go.IntKind.i64 6, V.int Go.IntKind.i64 0].getD (0 + scaled n 1) V.nil)))) none) none)) := by kernel_rfl
theorem mod_ev (n m : Int) : evCall Try.prog [] 100 26 [.int .i64 n, .int .i64 m] [] (fun v _ => some v) =
  cond (!m == 0) (cond (decide (n.tmod m < 0)) (some (V.int Go.IntKind.i64 (wr Go.IntKind.i64 (n.tmod m + m)))) (some (V.int Go.IntKind.i64 (n.tmod m)))) none := by kernel_rfl
end Go.Proofs.Ytkhlghlmmnemeaa.Vl

namespace Go.Proofs.Ytkhlghlmmnemeaa.Vl
open Go Go.R
/-- how loud -/
def lvL : List Int := [1024, 862, 725, 610, 513, 432, 363, 306, 257, 216, 182, 153, 129, 108, 91, 77, 65, 54, 46, 38, 32, 27, 23, 19, 16, 14, 11, 10, 8, 7, 6, 0]
def lev (n : Int) : Int := bif decide (n < 0) then 1024 else lvL.getD n.toNat 0
theorem lev_neg {n : Int} (h : n < 0) : lev n = 1024 := by unfold lev; rw [decide_eq_true h]; rfl
theorem lev_far {n : Int} (h : n > 31) : lev n = 0 := by
  unfold lev; rw [decide_eq_false (by omega : ¬ n < 0), cond_false]
  rw [List.getD_eq_getElem?_getD, List.getElem?_eq_none (by show 32 ≤ _; omega)]; rfl
theorem fin32 {n : Int} (h0 : 0 ≤ n) (h1 : ¬ n > 31) : ∃ k : Fin 32, n = ((k.val : Nat) : Int) := ⟨⟨n.toNat, by omega⟩, by simp only; omega⟩
theorem level_eq (n : Int) : evCall Try.prog [] 100 13 [.int .i64 n] [] (fun v _ => some v) = some (.int .i64 (lev n)) := by
  rw [level_ev]
  by_cases h : n > 31
  · rw [decide_eq_true h, cond_true, lev_far h]
  · rw [decide_eq_false h, cond_false]
    by_cases h0 : n < 0
    · rw [if_pos (by omega : 0 > n), lev_neg h0]; rfl
    · rw [if_neg (by omega : ¬ 0 > n)]
      obtain ⟨k, rfl⟩ := fin32 (by omega) h
      clear h h0
      obtain ⟨k, hk⟩ := k
      match k, hk with
      | 0, _ | 1, _ | 2, _ | 3, _ | 4, _ | 5, _ | 6, _ | 7, _ | 8, _ | 9, _ | 10, _ | 11, _ | 12, _ | 13, _ | 14, _ | 15, _ | 16, _ | 17, _ | 18, _ | 19, _ | 20, _ | 21, _ | 22, _ | 23, _ | 24, _ | 25, _ | 26, _ | 27, _ | 28, _ | 29, _ | 30, _ | 31, _ => rfl
      | n + 32, h => exact absurd h (by omega)
theorem rlevel_eq (n : Int) : evCall Try.prog [] 100 14 [.int .i64 n] [] (fun v _ => some v) = some (.int .i64 (lev n)) := by
  rw [rlevel_ev]
  by_cases h0 : n < 0
  · rw [decide_eq_true h0, cond_true, lev_neg h0]
  · rw [decide_eq_false h0, cond_false]
    by_cases h : n > 31
    · rw [decide_eq_true h, cond_true, lev_far h]
    · rw [decide_eq_false h, cond_false]
      obtain ⟨k, rfl⟩ := fin32 (by omega) h
      clear h h0
      obtain ⟨k, hk⟩ := k
      match k, hk with
      | 0, _ | 1, _ | 2, _ | 3, _ | 4, _ | 5, _ | 6, _ | 7, _ | 8, _ | 9, _ | 10, _ | 11, _ | 12, _ | 13, _ | 14, _ | 15, _ | 16, _ | 17, _ | 18, _ | 19, _ | 20, _ | 21, _ | 22, _ | 23, _ | 24, _ | 25, _ | 26, _ | 27, _ | 28, _ | 29, _ | 30, _ | 31, _ => rfl
      | n + 32, h => exact absurd h (by omega)
def sLevel : Summ Try.prog := mkPure [] hN hM 13 100 (fun args => match args with | [.int .i64 n] => some (true, .int .i64 (lev n)) | _ => none) (by
  intro args v h
  split at h
  · simp only [Option.some.injEq, Prod.mk.injEq, true_and] at h; subst h; exact ⟨rfl, rfl, [], level_eq _⟩
  · cases h)
def sRLevel : Summ Try.prog := mkPure [] hN hM 14 100 (fun args => match args with | [.int .i64 n] => some (true, .int .i64 (lev n)) | _ => none) (by
  intro args v h
  split at h
  · simp only [Option.some.injEq, Prod.mk.injEq, true_and] at h; subst h; exact ⟨rfl, rfl, [], rlevel_eq _⟩
  · cases h)
theorem mod_tells {n m : Int} (h0 : 0 < m) (h1 : m < 4611686018427387904) : evCall Try.prog [] 100 26 [.int .i64 n, .int .i64 m] [] (fun v _ => some v) = some (.int .i64 (n % m)) := by
  rw [mod_ev]
  have hm : (!m == 0) = true := by
    have : (m == 0) = false := beq_eq_false_iff_ne.2 (by omega)
    rw [this]; rfl
  rw [hm, cond_true]
  have e0 := Int.emod_nonneg n (show m ≠ 0 by omega)
  have e1 := Int.emod_lt_of_pos n h0
  have ht : n.tmod m = if 0 ≤ n ∨ m ∣ n then n % m else n % m - m := by
    rw [Int.tmod_eq_emod]
    split <;> omega
  by_cases h : 0 ≤ n ∨ m ∣ n
  · rw [if_pos h] at ht
    have : decide (n.tmod m < 0) = false := by rw [ht]; simp; omega
    rw [this, cond_false, ht]
  · rw [if_neg h] at ht
    have : decide (n.tmod m < 0) = true := by rw [ht]; simp; omega
    rw [this, cond_true, ht, wrap_id (by omega) (by omega)]
    congr 3; omega
def sMod : Summ Try.prog := mkPure [] hN hM 26 100 (fun args => match args with | [.int .i64 n, .int .i64 m] => some (decide (0 < m) && decide (m < 4611686018427387904), .int .i64 (n % m)) | _ => none) (by
  intro args v h
  split at h
  · simp only [Option.some.injEq, Prod.mk.injEq, Bool.and_eq_true, decide_eq_true_eq] at h
    obtain ⟨hc, rfl⟩ := h
    exact ⟨rfl, rfl, [], mod_tells hc.1 hc.2⟩
  · cases h)
end Go.Proofs.Ytkhlghlmmnemeaa.Vl

namespace Go.Proofs.Ytkhlghlmmnemeaa.Vl
open Go Go.R
theorem gain_ev (a b c : Int) : evCall Try.prog [sLevel] 100 15 [.int .i64 a, .int .i64 b, .int .i64 c] [] (fun v _ => some v) =
  some (V.int Go.IntKind.i64 (lev (wr Go.IntKind.i64 (wr Go.IntKind.i64 (wr Go.IntKind.i64 (31 - bitI BinOp.and Go.IntKind.i64 a 31) + wr Go.IntKind.i64 (2 * wr Go.IntKind.i64 (15 - bitI BinOp.and Go.IntKind.i64 b 15))) + wr Go.IntKind.i64 (2 * wr Go.IntKind.i64 (15 - bitI BinOp.and Go.IntKind.i64 c 15)))))) := by kernel_rfl
theorem rgain_ev (a b c : Int) : evCall Try.prog [sRLevel, sMod] 100 16 [.int .i64 a, .int .i64 b, .int .i64 c] [] (fun v _ => some v) =
  some (V.int Go.IntKind.i64 (lev (wr Go.IntKind.i64 (wr Go.IntKind.i64 (wr Go.IntKind.i64 (31 - a % 32) + wr Go.IntKind.i64 (2 * wr Go.IntKind.i64 (15 - b % 16))) + wr Go.IntKind.i64 (2 * wr Go.IntKind.i64 (15 - c % 16)))))) := by kernel_rfl
end Go.Proofs.Ytkhlghlmmnemeaa.Vl

namespace Go.Proofs.Ytkhlghlmmnemeaa.Vl
open Go Go.R
def gain (a b c : Int) : Int := lev (31 - a % 32 + 2 * (15 - b % 16) + 2 * (15 - c % 16))
theorem gain_eq (a b c : Int) : evCall Try.prog [sLevel] 100 15 [.int .i64 a, .int .i64 b, .int .i64 c] [] (fun v _ => some v) = some (.int .i64 (gain a b c)) := by
  rw [gain_ev, and_m5, and_m4, and_m4]
  rw [wrap_id (n := 31 - a % 32) (by omega) (by omega), wrap_id (n := 15 - b % 16) (by omega) (by omega), wrap_id (n := 15 - c % 16) (by omega) (by omega)]
  rw [wrap_id (n := 2 * (15 - b % 16)) (by omega) (by omega), wrap_id (n := 2 * (15 - c % 16)) (by omega) (by omega)]
  rw [wrap_id (n := 31 - a % 32 + 2 * (15 - b % 16)) (by omega) (by omega), wrap_id (by omega) (by omega)]
  rfl
theorem rgain_eq (a b c : Int) : evCall Try.prog [sRLevel, sMod] 100 16 [.int .i64 a, .int .i64 b, .int .i64 c] [] (fun v _ => some v) = some (.int .i64 (gain a b c)) := by
  rw [rgain_ev]
  rw [wrap_id (n := 31 - a % 32) (by omega) (by omega), wrap_id (n := 15 - b % 16) (by omega) (by omega), wrap_id (n := 15 - c % 16) (by omega) (by omega)]
  rw [wrap_id (n := 2 * (15 - b % 16)) (by omega) (by omega), wrap_id (n := 2 * (15 - c % 16)) (by omega) (by omega)]
  rw [wrap_id (n := 31 - a % 32 + 2 * (15 - b % 16)) (by omega) (by omega), wrap_id (by omega) (by omega)]
  rfl
def sGain : Summ Try.prog := mkPure [sLevel] hN hM 15 100 (fun args => match args with | [.int .i64 a, .int .i64 b, .int .i64 c] => some (true, .int .i64 (gain a b c)) | _ => none) (by
  intro args v h
  split at h
  · simp only [Option.some.injEq, Prod.mk.injEq, true_and] at h; subst h; exact ⟨rfl, rfl, [], gain_eq _ _ _⟩
  · cases h)
def sRGain : Summ Try.prog := mkPure [sRLevel, sMod] hN hM 16 100 (fun args => match args with | [.int .i64 a, .int .i64 b, .int .i64 c] => some (true, .int .i64 (gain a b c)) | _ => none) (by
  intro args v h
  split at h
  · simp only [Option.some.injEq, Prod.mk.injEq, true_and] at h; subst h; exact ⟨rfl, rfl, [], rgain_eq _ _ _⟩
  · cases h)
end Go.Proofs.Ytkhlghlmmnemeaa.Vl

namespace Go.Proofs.Ytkhlghlmmnemeaa.Vl
open Go Go.R
theorem lawTells_ev (n : Int) (v : Nat → Int) : evCall Try.prog [sLevel, sRLevel, sGain, sRGain] 100 3 [.int .i64 n, .aggi .i64 3 v] [] (asB) =
  cond (lev n == lev n) (cond (gain (v 0) (v 1) (v 2) == gain (v 0) (v 1) (v 2)) (some true) (some false)) (some false) := by kernel_rfl
theorem lawFalls_ev (n : Int) (v : Nat → Int) (a b c g : Int) : evCallH Try.prog [sLevel, sRLevel, sGain, sRGain] [(13, .int .i64 a), (16, .int .i64 b), (19, .int .i64 c), (23, .int .i64 g)] 100 4 [.int .i64 n, .aggi .i64 3 v] [] (asB) =
  cond (bitI BinOp.and Go.IntKind.i64 (v 0) 31 == a) (cond (bitI BinOp.and Go.IntKind.i64 (v 1) 15 == b) (cond (bitI BinOp.and Go.IntKind.i64 (v 2) 15 == c) (cond (gain a b c == g) (cond (decide (lev (bitI BinOp.and Go.IntKind.i64 n 255) < lev (wr Go.IntKind.i64 (bitI BinOp.and Go.IntKind.i64 n 255 + 1)))) (some false) (cond (decide (g < 0)) (some false) (cond (decide (g > 1024)) (some false) (cond (gain 0 b c != 0) (some false) (cond (a == 31) (cond (b == 15) (cond (c == 15) (some (gain a b c == gain a c b)) (cond (decide (gain a b (wr Go.IntKind.i64 (c + 1)) ≥ g)) (some (gain a b c == gain a c b)) (some false))) (cond (decide (gain a (wr Go.IntKind.i64 (b + 1)) c ≥ g)) (cond (c == 15) (some (gain a b c == gain a c b)) (cond (decide (gain a b (wr Go.IntKind.i64 (c + 1)) ≥ g)) (some (gain a b c == gain a c b)) (some false))) (some false))) (cond (decide (gain (wr Go.IntKind.i64 (a + 1)) b c ≥ g)) (cond (b == 15) (cond (c == 15) (some (gain a b c == gain a c b)) (cond (decide (gain a b (wr Go.IntKind.i64 (c + 1)) ≥ g)) (some (gain a b c == gain a c b)) (some false))) (cond (decide (gain a (wr Go.IntKind.i64 (b + 1)) c ≥ g)) (cond (c == 15) (some (gain a b c == gain a c b)) (cond (decide (gain a b (wr Go.IntKind.i64 (c + 1)) ≥ g)) (some (gain a b c == gain a c b)) (some false))) (some false))) (some false))))))) none) none) none) none := by kernel_rfl
theorem lawHalves_ev (n u b : Int) (m v c : Int) : evCallH Try.prog [sLevel, sRLevel, sGain, sRGain] [(11, .int .i64 m), (13, .int .i64 v), (15, .int .i64 c)] 100 5 [.int .i64 n, .int .i64 u, .int .i64 b] [] (asB) =
  cond ((wr Go.IntKind.i64 (n.tmod 27 + 27)).tmod 27 == m) (cond (bitI BinOp.and Go.IntKind.i64 u 31 == v) (cond (bitI BinOp.and Go.IntKind.i64 b 15 == c) (cond (decide (wr Go.IntKind.i64 (lev m - wr Go.IntKind.i64 (2 * lev (wr Go.IntKind.i64 (m + 4)))) < -2)) (some false) (cond (decide (wr Go.IntKind.i64 (lev m - wr Go.IntKind.i64 (2 * lev (wr Go.IntKind.i64 (m + 4)))) > 2)) (some false) (cond (gain v c 15 == lev (wr Go.IntKind.i64 (wr Go.IntKind.i64 (31 - v) + wr Go.IntKind.i64 (2 * wr Go.IntKind.i64 (15 - c))))) (cond (gain v 15 c == gain v c 15) (cond (decide (v < 2)) (some true) (cond (c == 15) (some true) (some (gain (wr Go.IntKind.i64 (v - 2)) 15 15 == gain v 14 15)))) (some false)) (some false)))) none) none) none := by kernel_rfl
end Go.Proofs.Ytkhlghlmmnemeaa.Vl

namespace Go.Proofs.Ytkhlghlmmnemeaa.Vl
open Go Go.R
theorem volumeTells_ok (n : Int) (_ : IntKind.i64.has n) (v : Nat → Int) (_ : ∀ i, i < 3 → IntKind.i64.has (v i)) : evCallH Try.prog [sLevel, sRLevel, sGain, sRGain] [] 100 3 [.int .i64 n, .aggi .i64 3 v] [] asB = some true := by
  refine (lawTells_ev n v).trans ?_
  rw [beq_self_eq_true, beq_self_eq_true]; rfl
def fallsT (a b c g : Int) : Option Bool :=
  cond (decide (g < 0)) (some false) (cond (decide (g > 1024)) (some false) (cond (gain 0 b c != 0) (some false) (cond (a == 31) (cond (b == 15) (cond (c == 15) (some (gain a b c == gain a c b)) (cond (decide (gain a b (wr Go.IntKind.i64 (c + 1)) ≥ g)) (some (gain a b c == gain a c b)) (some false))) (cond (decide (gain a (wr Go.IntKind.i64 (b + 1)) c ≥ g)) (cond (c == 15) (some (gain a b c == gain a c b)) (cond (decide (gain a b (wr Go.IntKind.i64 (c + 1)) ≥ g)) (some (gain a b c == gain a c b)) (some false))) (some false))) (cond (decide (gain (wr Go.IntKind.i64 (a + 1)) b c ≥ g)) (cond (b == 15) (cond (c == 15) (some (gain a b c == gain a c b)) (cond (decide (gain a b (wr Go.IntKind.i64 (c + 1)) ≥ g)) (some (gain a b c == gain a c b)) (some false))) (cond (decide (gain a (wr Go.IntKind.i64 (b + 1)) c ≥ g)) (cond (c == 15) (some (gain a b c == gain a c b)) (cond (decide (gain a b (wr Go.IntKind.i64 (c + 1)) ≥ g)) (some (gain a b c == gain a c b)) (some false))) (some false))) (some false)))))
theorem falls_all : ∀ (a : Fin 32) (b c : Fin 16), fallsT ((a.val : Nat) : Int) ((b.val : Nat) : Int) ((c.val : Nat) : Int) (gain ((a.val : Nat) : Int) ((b.val : Nat) : Int) ((c.val : Nat) : Int)) = some true := by decide +kernel
theorem lev_all : ∀ (a : Fin 256), lev ((a.val : Nat) : Int) ≥ lev (wr .i64 (((a.val : Nat) : Int) + 1)) := by decide +kernel
theorem volumeFalls_ok (n : Int) (_ : IntKind.i64.has n) (v : Nat → Int) (_ : ∀ i, i < 3 → IntKind.i64.has (v i)) :
    evCallH Try.prog [sLevel, sRLevel, sGain, sRGain] [(13, .int .i64 (v 0 % 32)), (16, .int .i64 (v 1 % 16)), (19, .int .i64 (v 2 % 16)), (23, .int .i64 (gain (v 0 % 32) (v 1 % 16) (v 2 % 16)))] 100 4 [.int .i64 n, .aggi .i64 3 v] [] asB = some true := by
  refine (lawFalls_ev n v _ _ _ _).trans ?_
  rw [and_m5, and_m4, and_m4, and_m8]
  simp only [beq_self_eq_true, cond_true]
  have h1 := lev_all ⟨(n % 256).toNat, by omega⟩
  have h2 := falls_all ⟨(v 0 % 32).toNat, by omega⟩ ⟨(v 1 % 16).toNat, by omega⟩ ⟨(v 2 % 16).toNat, by omega⟩
  simp only at h1 h2
  rw [Int.toNat_of_nonneg (by omega)] at h1
  rw [Int.toNat_of_nonneg (by omega), Int.toNat_of_nonneg (by omega), Int.toNat_of_nonneg (by omega)] at h2
  rw [decide_eq_false (by omega), cond_false]
  exact h2
def halvesD (m : Int) : Bool := !(decide (wr Go.IntKind.i64 (lev m - wr Go.IntKind.i64 (2 * lev (wr Go.IntKind.i64 (m + 4)))) < -2)) && !(decide (wr Go.IntKind.i64 (lev m - wr Go.IntKind.i64 (2 * lev (wr Go.IntKind.i64 (m + 4)))) > 2))
def halvesT (v c : Int) : Option Bool :=
  (cond (gain v c 15 == lev (wr Go.IntKind.i64 (wr Go.IntKind.i64 (31 - v) + wr Go.IntKind.i64 (2 * wr Go.IntKind.i64 (15 - c))))) (cond (gain v 15 c == gain v c 15) (cond (decide (v < 2)) (some true) (cond (c == 15) (some true) (some (gain (wr Go.IntKind.i64 (v - 2)) 15 15 == gain v 14 15)))) (some false)) (some false))
theorem halves_m : ∀ (m : Fin 27), halvesD ((m.val : Nat) : Int) = true := by decide +kernel
theorem halves_all : ∀ (v : Fin 32) (c : Fin 16), halvesT ((v.val : Nat) : Int) ((c.val : Nat) : Int) = some true := by decide +kernel
theorem volumeHalves_ok (n : Int) (_ : IntKind.i64.has n) (u : Int) (_ : IntKind.i64.has u) (b : Int) (_ : IntKind.i64.has b) :
    evCallH Try.prog [sLevel, sRLevel, sGain, sRGain] [(11, .int .i64 (n % 27)), (13, .int .i64 (u % 32)), (15, .int .i64 (b % 16))] 100 5 [.int .i64 n, .int .i64 u, .int .i64 b] [] asB = some true := by
  refine (lawHalves_ev n u b _ _ _).trans ?_
  have e : (wr Go.IntKind.i64 (n.tmod 27 + 27)).tmod 27 = n % 27 := by
    have h1 : n.tmod 27 = if 0 ≤ n ∨ (27 : Int) ∣ n then n % 27 else n % 27 - 27 := by rw [Int.tmod_eq_emod]; split <;> omega
    have h2 := Int.emod_nonneg n (show (27 : Int) ≠ 0 by decide)
    have h3 := Int.emod_lt_of_pos n (show (0 : Int) < 27 by decide)
    rw [wrap_id (by split at h1 <;> omega) (by split at h1 <;> omega), Int.tmod_eq_emod_of_nonneg (by split at h1 <;> omega)]
    split at h1 <;> omega
  rw [e, and_m5, and_m4]
  simp only [beq_self_eq_true, cond_true]
  have h1 := halves_m ⟨(n % 27).toNat, by omega⟩
  have h2 := halves_all ⟨(u % 32).toNat, by omega⟩ ⟨(b % 16).toNat, by omega⟩
  simp only at h1 h2
  rw [Int.toNat_of_nonneg (by omega)] at h1
  rw [Int.toNat_of_nonneg (by omega), Int.toNat_of_nonneg (by omega)] at h2
  unfold halvesD at h1
  simp only [Bool.and_eq_true, Bool.not_eq_true'] at h1
  rw [h1.1, h1.2, cond_false, cond_false]
  exact h2
end Go.Proofs.Ytkhlghlmmnemeaa.Vl
