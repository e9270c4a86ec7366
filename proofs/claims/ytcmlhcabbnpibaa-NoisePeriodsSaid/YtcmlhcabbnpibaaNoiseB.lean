import Derived.Test.YtcmlhcabbnpibaaNoiseA
namespace Go.Proofs.Ytcmlhcabbnpibaa
open Go Go.R
theorem hN : NamesOK Try.prog := names_of (by kernel_rfl)
theorem hM : Try.prog.follows .mixedOrders = true := by kernel_rfl

/-- how many clocks a number takes -/
def per (b : Int) : Int := if b % 32 = 31 then 64 else 128 * (31 - b % 32)
theorem period_eq (b : Int) : evCall Try.prog [] 100 15 [.int .i64 b] [] (fun v _ => some v) = some (.int .i64 (per b)) := by
  rw [period_ev, and_m5, wrap_id (n := 31 - b % 32) (by omega) (by omega), wrap_id (by omega) (by omega)]
  unfold per
  by_cases h : b % 32 = 31
  · have : (31 - b % 32 != 0) = false := by rw [bne_eq_false_iff_eq]; omega
    rw [this, cond_false, if_pos h]
  · have : (31 - b % 32 != 0) = true := by rw [bne_iff_ne]; omega
    rw [this, cond_true, if_neg h]
def sPeriod : Summ Try.prog := mkPure [] hN hM 15 100 (fun args => match args with | [.int .i64 b] => some (.int .i64 (per b)) | _ => none) (by
  intro args v h
  split at h
  · rename_i b
    simp only [Option.some.injEq] at h; subst h
    exact ⟨rfl, rfl, period_eq b⟩
  · cases h)
end Go.Proofs.Ytcmlhcabbnpibaa
