import Derived.Test.YtcmlhcabbnpibaaIrqP
set_option linter.unusedVariables false
set_option linter.unusedSimpArgs false
namespace Go.Proofs.Ytcmlhcabbnpibaa
open Go Go.R
/-- a number below 8 with a bit set, or not -/
def putN (n : Int) (d : Int) (on : Bool) : Int := n - n / d % 2 * d + cond on d 0
def isO (n : Int) : Bool := decide (0 ≤ n) && decide (n < 8)
def pow3 (k : Int) : Int := if k = 0 then 1 else if k = 1 then 2 else 4
theorem put_eq {n k : Int} {on : Bool} (h : isO n = true) (hk : (k == 0 || k == 1 || k == 2) = true) : evCall Try.prog [sMod] 100 46 [.int .i64 n, .int .i64 k, .bool on] [] (fun v _ => some v) = some (.int .i64 (putN n (pow3 k) on)) := by
  simp only [isO, Bool.and_eq_true, decide_eq_true_eq] at h
  have hk' : k = 0 ∨ k = 1 ∨ k = 2 := by simp only [Bool.or_eq_true, beq_iff_eq] at hk; omega
  unfold putN
  rcases hk' with rfl | rfl | rfl
  · rw [rput0_ev, show n % 65536 = n by omega, tdiv_pos h.1, show pow3 0 = 1 from rfl]
    rw [wrap_id (n := n / 1) (by omega) (by omega), tmod_pos (by omega), wrap_id (n := n / 1 % 2 * 1) (by omega) (by omega), wrap_id (n := n - n / 1 % 2 * 1) (by omega) (by omega)]
    cases on
    · simp
    · rw [wrap_id (by omega) (by omega)]; simp
  · rw [rput1_ev, show n % 65536 = n by omega, tdiv_pos h.1, show pow3 1 = 2 from rfl]
    rw [wrap_id (n := n / 2) (by omega) (by omega), tmod_pos (by omega), wrap_id (n := n / 2 % 2 * 2) (by omega) (by omega), wrap_id (n := n - n / 2 % 2 * 2) (by omega) (by omega)]
    cases on
    · simp
    · rw [wrap_id (by omega) (by omega)]; simp
  · rw [rput2_ev, show n % 65536 = n by omega, tdiv_pos h.1, show pow3 2 = 4 from rfl]
    rw [wrap_id (n := n / 4) (by omega) (by omega), tmod_pos (by omega), wrap_id (n := n / 4 % 2 * 4) (by omega) (by omega), wrap_id (n := n - n / 4 % 2 * 4) (by omega) (by omega)]
    cases on
    · simp
    · rw [wrap_id (by omega) (by omega)]; simp
def sPut : Summ Try.prog := mkPure [sMod] hN hM 46 100 (fun args => match args with | [.int .i64 n, .int .i64 k, .bool on] => some (isO n && (k == 0 || k == 1 || k == 2), .int .i64 (putN n (pow3 k) on)) | _ => none) (by
  intro args v h
  split at h
  · simp only [Option.some.injEq, Prod.mk.injEq, Bool.and_eq_true] at h; obtain ⟨hc, rfl⟩ := h; exact ⟨rfl, rfl, [], put_eq hc.1 hc.2⟩
  · cases h)
theorem putN_O {n d : Int} {on : Bool} (h : isO n = true) (hd : d = 1 ∨ d = 2 ∨ d = 4) : isO (putN n d on) = true := by
  simp only [isO, Bool.and_eq_true, decide_eq_true_eq] at h ⊢
  unfold putN
  rcases hd with rfl | rfl | rfl <;> cases on <;> simp only [cond_true, cond_false] <;> omega
end Go.Proofs.Ytcmlhcabbnpibaa
