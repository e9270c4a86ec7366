import Derived.Test.YtcmlhcabbnpibaaNzC
import Derived.Test.YtcmlhcabbnpibaaN
set_option linter.unusedVariables false
set_option linter.unusedSimpArgs false
namespace Go.Proofs.Ytcmlhcabbnpibaa
open Go Go.R
theorem parN_01 (t : Int) : parN t = 0 ∨ parN t = 1 := by unfold parN; exact bit01 _
theorem step_eq (s : Int) : evCallH Try.prog [sState, sOdd] [(4, .int .i64 (nst s))] 100 16 [.int .i64 s] [] (fun v _ => some v) = some (.int .i64 (nstep s)) := by
  rw [step_ev, beq_self_eq_true, cond_true]
  have h := nst_in s
  unfold nstep
  generalize nst s = t at *
  rw [and_taps (by omega) (by omega), tap_tap, beq_self_eq_true, cond_true, par_tap, fdiv_pos t (show (0 : Int) ≤ 2 by decide)]
  have hp := parN_01 t
  rw [wrap_id (by omega) (by omega), or_top (by omega) (by omega) hp]
theorem nstep_in (s : Int) : 1 ≤ nstep s ∧ nstep s < 262144 := by
  have h := nst_in s
  unfold nstep
  generalize nst s = t at *
  have hp := parN_01 t
  by_cases h1 : t = 1
  · subst h1; decide
  · omega
theorem rstep_eq (s : Int) : evCallH Try.prog [sRState] [(5, .int .i64 (nst s))] 100 20 [.int .i64 s] [] (fun v _ => some v) = some (.int .i64 (nstep s)) := by
  rw [rstep_ev, beq_self_eq_true, cond_true]
  have h := nst_in s
  have hn := nstep_in s
  unfold nstep at *
  generalize nst s = t at *
  rw [tdiv_pos (by omega), tdiv_pos (by omega), tdiv_pos (by omega), tdiv_pos (by omega), tdiv_pos (by omega)]
  rw [wrap_id (n := t / 1) (by omega) (by omega), wrap_id (n := t / 2) (by omega) (by omega), wrap_id (n := t / 2048) (by omega) (by omega), wrap_id (n := t / 4096) (by omega) (by omega), wrap_id (n := t / 131072) (by omega) (by omega)]
  rw [tmod_pos (n := t / 1) (by omega), tmod_pos (n := t / 2) (by omega), tmod_pos (n := t / 2048) (by omega), tmod_pos (n := t / 4096) (by omega), tmod_pos (n := t / 131072) (by omega), show t / 1 = t by omega]
  rw [wrap_id (n := t % 2 + t / 2 % 2) (by omega) (by omega), wrap_id (n := t % 2 + t / 2 % 2 + t / 2048 % 2) (by omega) (by omega), wrap_id (n := t % 2 + t / 2 % 2 + t / 2048 % 2 + t / 4096 % 2) (by omega) (by omega), wrap_id (n := t % 2 + t / 2 % 2 + t / 2048 % 2 + t / 4096 % 2 + t / 131072 % 2) (by omega) (by omega)]
  rw [tmod_pos (by omega)]
  rw [show (t % 2 + t / 2 % 2 + t / 2048 % 2 + t / 4096 % 2 + t / 131072 % 2) % 2 = parN t from rfl]
  have hp := parN_01 t
  rw [wrap_id (n := parN t * 131072) (by omega) (by omega), wrap_id (n := t / 2 + parN t * 131072) (by omega) (by omega), nst_id hn.1 hn.2]
def sStep : Summ Try.prog := mkPure [sState, sOdd] hN hM 16 100 (fun args => match args with | [.int .i64 s] => some (true, .int .i64 (nstep s)) | _ => none) (by
  intro args v h; split at h
  · simp only [Option.some.injEq, Prod.mk.injEq, true_and] at h; subst h; exact ⟨rfl, rfl, _, step_eq _⟩
  · cases h)
def sRStep : Summ Try.prog := mkPure [sRState] hN hM 20 100 (fun args => match args with | [.int .i64 s] => some (true, .int .i64 (nstep s)) | _ => none) (by
  intro args v h; split at h
  · simp only [Option.some.injEq, Prod.mk.injEq, true_and] at h; subst h; exact ⟨rfl, rfl, _, rstep_eq _⟩
  · cases h)
end Go.Proofs.Ytcmlhcabbnpibaa
