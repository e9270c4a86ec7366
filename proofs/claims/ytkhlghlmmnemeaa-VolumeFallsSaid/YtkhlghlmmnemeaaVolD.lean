import Derived.Test.YtkhlghlmmnemeaaVolC
namespace Go.Proofs.Ytkhlghlmmnemeaa
open Go Go.R
def gain (a b c : Int) : Int := lev (31 - a % 32 + 2 * (15 - b % 16) + 2 * (15 - c % 16))
theorem gain_eq (a b c : Int) : evCall Try.prog [sLevel] 100 15 [.int .i64 a, .int .i64 b, .int .i64 c] [] (fun v _ => some v) = some (.int .i64 (gain a b c)) := by
  rw [gain_ev, and_m5, and_m4, and_m4]
  rw [wrap_id (n := 31 - a % 32) (by omega) (by omega), wrap_id (n := 15 - b % 16) (by omega) (by omega), wrap_id (n := 15 - c % 16) (by omega) (by omega)]
  rw [wrap_id (n := 2 * (15 - b % 16)) (by omega) (by omega), wrap_id (n := 2 * (15 - c % 16)) (by omega) (by omega)]
  rw [wrap_id (n := 31 - a % 32 + 2 * (15 - b % 16)) (by omega) (by omega), wrap_id (by omega) (by omega)]
  rfl
theorem rgain_eq (a b c : Int) : evCall Try.prog [sRLevel, sMod] 100 16 [.int .i64 a, .int .i64 b, .int .i64 c] [] (fun v _ => some v) = some (.int .i64 (gain a b c)) := by
  rw [rgain_ev]
  rw [wrap_id (n := 31 - a % 32) (by omega) (by omega), wrap_id (n := 15 - b % 16) (by omega) (by omega), wrap_id (n := 15 - c % 16) (by omega) (by omega)]
  rw [wrap_id (n := 2 * (15 - b % 16)) (by omega) (by omega), wrap_id (n := 2 * (15 - c % 16)) (by omega) (by omega)]
  rw [wrap_id (n := 31 - a % 32 + 2 * (15 - b % 16)) (by omega) (by omega), wrap_id (by omega) (by omega)]
  rfl
def sGain : Summ Try.prog := mkPure [sLevel] hN hM 15 100 (fun args => match args with | [.int .i64 a, .int .i64 b, .int .i64 c] => some (true, .int .i64 (gain a b c)) | _ => none) (by
  intro args v h
  split at h
  · simp only [Option.some.injEq, Prod.mk.injEq, true_and] at h; subst h; exact ⟨rfl, rfl, [], gain_eq _ _ _⟩
  · cases h)
def sRGain : Summ Try.prog := mkPure [sRLevel, sMod] hN hM 16 100 (fun args => match args with | [.int .i64 a, .int .i64 b, .int .i64 c] => some (true, .int .i64 (gain a b c)) | _ => none) (by
  intro args v h
  split at h
  · simp only [Option.some.injEq, Prod.mk.injEq, true_and] at h; subst h; exact ⟨rfl, rfl, [], rgain_eq _ _ _⟩
  · cases h)
end Go.Proofs.Ytkhlghlmmnemeaa
