import Derived.Test.YtcmlhcabbnpibaaRegC
namespace Go.Proofs.Ytcmlhcabbnpibaa
open Go Go.R
def kW (n : Int) : Int := if n < 0 then 8 else if n ≥ 2097152 then 8 else if n / 8192 < 128 then 0 else if 248 ≤ n / 8192 ∧ n / 8192 ≤ 251 then 1 else if n / 8192 = 255 then portK (n % 8192) else 8
def pW (n : Int) : Int := if n < 0 then 0 else if n ≥ 1048576 then 0 else n / 8192
def aW (n : Int) : Int := if n < 0 then 0 else if n ≥ 2097152 then 0 else if n / 8192 < 128 then n % 8192 else if 248 ≤ n / 8192 ∧ n / 8192 ≤ 251 then n % 8192 else if n / 8192 = 255 then portA (n % 8192) else 0
def whereV (n : Int) : V := .agg [.int .i64 (kW n), .int .i64 (pW n), .int .i64 (aW n)]
theorem where_eq (n : Int) : evCallH Try.prog [sPort] [(10, .int .i64 (n / 8192)), (12, .int .i64 (n % 8192))] 100 30 [.int .i64 n] [] (fun v _ => some v) = some (whereV n) := by
  rw [wher_ev, fdiv_pos n (show (0 : Int) ≤ 8192 by decide), and_m13]
  have hr : (decide (0 ≤ n % 8192) && decide (n % 8192 < 8192)) = true := by simp; omega
  simp only [beq_self_eq_true, cond_true, hr, cdec, ceq, whereV, kW, pW, aW]
  by_cases h0 : n < 0
  · simp [h0]
  · by_cases h1 : n ≥ 2097152
    · rw [if_neg h0, if_pos h1, if_neg h0, if_pos h1, if_neg h0, if_pos (by omega : n ≥ 1048576), if_neg h0, if_pos h1]
    · simp only [if_neg h0, if_neg h1]
      by_cases h2 : n / 8192 < 128
      · simp only [if_pos h2]; rw [if_neg (by omega : ¬ n ≥ 1048576)]
      · simp only [if_neg h2]; rw [if_pos (by omega : n ≥ 1048576)]
        by_cases h3 : 248 ≤ n / 8192 ∧ n / 8192 ≤ 251
        · simp only [if_pos h3]; rw [if_pos (by omega), if_pos h3.2]
        · simp only [if_neg h3]
          by_cases h4 : n / 8192 = 255
          · simp only [if_pos h4]; rw [if_pos (by omega : n / 8192 ≥ 248), if_neg (by omega)]
            cases hb : (portK (n % 8192) == 8 && (portA (n % 8192) == 0 && true)) with
            | false => rfl
            | true =>
              simp only [Bool.and_true, Bool.and_eq_true, beq_iff_eq] at hb
              rw [hb.1, hb.2]; rfl
          · simp only [if_neg h4]; split
            · rw [if_neg (by omega)]
            · rfl
theorem rwhere_eq (n : Int) (hn : 0 ≤ n → n ≤ 9223372036854775807) : evCallH Try.prog [] [(14, .int .i64 (n / 8192)), (16, .int .i64 (n % 8192)), (31, .int .i64 (n % 8192 / 1024))] 100 31 [.int .i64 n] [] (fun v _ => some v) = some (.tup [.int .i64 (kW n), .int .i64 (pW n), .int .i64 (aW n)]) := by
  rw [rwher_ev]
  simp only [cdec, ceq, cne, kW, pW, aW]
  by_cases h0 : n < 0
  · simp [h0]
  · have e1 := tdiv_pos (by omega : 0 ≤ n) 8192
    have e2 := tmod_pos (by omega : 0 ≤ n) 8192
    have e3 := Int.emod_nonneg n (show (8192 : Int) ≠ 0 by decide)
    by_cases h1 : n > 2097151
    · rw [if_neg h0, if_pos h1, if_neg h0, if_pos (by omega : n ≥ 2097152), if_neg h0, if_pos (by omega : n ≥ 1048576), if_neg h0, if_pos (by omega : n ≥ 2097152)]
    · rw [e1, e2, wrap_id (by omega) (by omega), tdiv_pos e3, wrap_id (n := n % 8192 / 1024) (by omega) (by omega)]
      simp only [if_neg h0, if_neg h1, if_true, if_neg (by omega : ¬ n ≥ 2097152), tmod_pos e3]
      by_cases h2 : n / 8192 < 128
      · simp only [if_pos h2]; rw [if_neg (by omega : ¬ n ≥ 1048576)]
      · simp only [if_neg h2]; rw [if_pos (by omega : n ≥ 1048576)]
        by_cases h3 : 248 ≤ n / 8192 ∧ n / 8192 ≤ 251
        · simp only [if_pos h3]; rw [if_pos (by omega), if_pos h3.2]
        · simp only [if_neg h3]
          by_cases h4 : n / 8192 = 255
          · simp only [if_pos h4]; rw [if_pos (by omega : n / 8192 ≥ 248), if_neg (by omega)]
            unfold portK portA
            have hq : n % 8192 / 1024 = 0 ∨ n % 8192 / 1024 = 1 ∨ n % 8192 / 1024 = 2 ∨ n % 8192 / 1024 = 3 ∨ n % 8192 / 1024 = 4 ∨ n % 8192 / 1024 = 5 ∨ n % 8192 / 1024 = 6 ∨ n % 8192 / 1024 = 7 := by omega
            rcases hq with h | h | h | h | h | h | h | h <;> rw [h] <;> rfl
          · simp only [if_neg h4]; split
            · rw [if_neg (by omega)]
            · rfl
def sWhere : Summ Try.prog := mkPure [sPort] hN hM 30 100 (fun args => match args with | [.int .i64 n] => some (true, whereV n) | _ => none) (by
  intro args v h
  split at h
  · simp only [Option.some.injEq, Prod.mk.injEq, true_and] at h; subst h; exact ⟨rfl, rfl, _, where_eq _⟩
  · cases h)
def sRWhere : Summ Try.prog := mkPure [] hN hM 31 100 (fun args => match args with | [.int .i64 n] => some (decide (n ≤ 9223372036854775807), .tup [.int .i64 (kW n), .int .i64 (pW n), .int .i64 (aW n)]) | _ => none) (by
  intro args v h
  split at h
  · simp only [Option.some.injEq, Prod.mk.injEq, decide_eq_true_eq] at h; obtain ⟨hn, rfl⟩ := h; exact ⟨rfl, rfl, _, rwhere_eq _ (fun _ => hn)⟩
  · cases h)
end Go.Proofs.Ytcmlhcabbnpibaa
