import Derived.Test.YtkhlghlmmnemeaaVolA
namespace Go.Proofs.Ytkhlghlmmnemeaa
open Go Go.R
/-- how loud -/
def lvL : List Int := [1024, 862, 725, 610, 513, 432, 363, 306, 257, 216, 182, 153, 129, 108, 91, 77, 65, 54, 46, 38, 32, 27, 23, 19, 16, 14, 11, 10, 8, 7, 6, 0]
def lev (n : Int) : Int := bif decide (n < 0) then 1024 else lvL.getD n.toNat 0
theorem lev_neg {n : Int} (h : n < 0) : lev n = 1024 := by unfold lev; rw [decide_eq_true h]; rfl
theorem lev_far {n : Int} (h : n > 31) : lev n = 0 := by
  unfold lev; rw [decide_eq_false (by omega : ¬ n < 0), cond_false]
  rw [List.getD_eq_getElem?_getD, List.getElem?_eq_none (by show 32 ≤ _; omega)]; rfl
theorem fin32 {n : Int} (h0 : 0 ≤ n) (h1 : ¬ n > 31) : ∃ k : Fin 32, n = ((k.val : Nat) : Int) := ⟨⟨n.toNat, by omega⟩, by simp only; omega⟩
theorem level_eq (n : Int) : evCall Try.prog [] 100 13 [.int .i64 n] [] (fun v _ => some v) = some (.int .i64 (lev n)) := by
  rw [level_ev]
  by_cases h : n > 31
  · rw [decide_eq_true h, cond_true, lev_far h]
  · rw [decide_eq_false h, cond_false]
    by_cases h0 : n < 0
    · rw [if_pos (by omega : 0 > n), lev_neg h0]; rfl
    · rw [if_neg (by omega : ¬ 0 > n)]
      obtain ⟨k, rfl⟩ := fin32 (by omega) h
      clear h h0
      obtain ⟨k, hk⟩ := k
      match k, hk with
      | 0, _ | 1, _ | 2, _ | 3, _ | 4, _ | 5, _ | 6, _ | 7, _ | 8, _ | 9, _ | 10, _ | 11, _ | 12, _ | 13, _ | 14, _ | 15, _ | 16, _ | 17, _ | 18, _ | 19, _ | 20, _ | 21, _ | 22, _ | 23, _ | 24, _ | 25, _ | 26, _ | 27, _ | 28, _ | 29, _ | 30, _ | 31, _ => rfl
      | n + 32, h => exact absurd h (by omega)
theorem rlevel_eq (n : Int) : evCall Try.prog [] 100 14 [.int .i64 n] [] (fun v _ => some v) = some (.int .i64 (lev n)) := by
  rw [rlevel_ev]
  by_cases h0 : n < 0
  · rw [decide_eq_true h0, cond_true, lev_neg h0]
  · rw [decide_eq_false h0, cond_false]
    by_cases h : n > 31
    · rw [decide_eq_true h, cond_true, lev_far h]
    · rw [decide_eq_false h, cond_false]
      obtain ⟨k, rfl⟩ := fin32 (by omega) h
      clear h h0
      obtain ⟨k, hk⟩ := k
      match k, hk with
      | 0, _ | 1, _ | 2, _ | 3, _ | 4, _ | 5, _ | 6, _ | 7, _ | 8, _ | 9, _ | 10, _ | 11, _ | 12, _ | 13, _ | 14, _ | 15, _ | 16, _ | 17, _ | 18, _ | 19, _ | 20, _ | 21, _ | 22, _ | 23, _ | 24, _ | 25, _ | 26, _ | 27, _ | 28, _ | 29, _ | 30, _ | 31, _ => rfl
      | n + 32, h => exact absurd h (by omega)
def sLevel : Summ Try.prog := mkPure [] hN hM 13 100 (fun args => match args with | [.int .i64 n] => some (true, .int .i64 (lev n)) | _ => none) (by
  intro args v h
  split at h
  · simp only [Option.some.injEq, Prod.mk.injEq, true_and] at h; subst h; exact ⟨rfl, rfl, [], level_eq _⟩
  · cases h)
def sRLevel : Summ Try.prog := mkPure [] hN hM 14 100 (fun args => match args with | [.int .i64 n] => some (true, .int .i64 (lev n)) | _ => none) (by
  intro args v h
  split at h
  · simp only [Option.some.injEq, Prod.mk.injEq, true_and] at h; subst h; exact ⟨rfl, rfl, [], rlevel_eq _⟩
  · cases h)
theorem mod_tells {n m : Int} (h0 : 0 < m) (h1 : m < 4611686018427387904) : evCall Try.prog [] 100 26 [.int .i64 n, .int .i64 m] [] (fun v _ => some v) = some (.int .i64 (n % m)) := by
  rw [mod_ev]
  have hm : (!m == 0) = true := by
    have : (m == 0) = false := beq_eq_false_iff_ne.2 (by omega)
    rw [this]; rfl
  rw [hm, cond_true]
  have e0 := Int.emod_nonneg n (show m ≠ 0 by omega)
  have e1 := Int.emod_lt_of_pos n h0
  have ht : n.tmod m = if 0 ≤ n ∨ m ∣ n then n % m else n % m - m := by
    rw [Int.tmod_eq_emod]
    split <;> omega
  by_cases h : 0 ≤ n ∨ m ∣ n
  · rw [if_pos h] at ht
    have : decide (n.tmod m < 0) = false := by rw [ht]; simp; omega
    rw [this, cond_false, ht]
  · rw [if_neg h] at ht
    have : decide (n.tmod m < 0) = true := by rw [ht]; simp; omega
    rw [this, cond_true, ht, wrap_id (by omega) (by omega)]
    congr 3; omega
def sMod : Summ Try.prog := mkPure [] hN hM 26 100 (fun args => match args with | [.int .i64 n, .int .i64 m] => some (decide (0 < m) && decide (m < 4611686018427387904), .int .i64 (n % m)) | _ => none) (by
  intro args v h
  split at h
  · simp only [Option.some.injEq, Prod.mk.injEq, Bool.and_eq_true, decide_eq_true_eq] at h
    obtain ⟨hc, rfl⟩ := h
    exact ⟨rfl, rfl, [], mod_tells hc.1 hc.2⟩
  · cases h)
end Go.Proofs.Ytkhlghlmmnemeaa
