import Derived.Test.YtcmlhcabbnpibaaNoiseC
namespace Go.Proofs.Ytcmlhcabbnpibaa
open Go Go.R
theorem or128_mod32 (b : Int) : bitI .or .i64 b 128 % 32 = b % 32 := by
  rw [bitI_or, wrap_eq]
  have h1 : u64 128 = 128 := by decide
  rw [h1]
  have h2 : (u64 b ||| 128) % 2 ^ 5 = u64 b % 2 ^ 5 := by rw [Nat.or_mod_two_pow]; simp
  have h3 : (u64 b : Int) % 32 = b % 32 := by unfold u64; omega
  omega
theorem noisePeriods_ok (b : Int) (_ : IntKind.i64.has b) : evCall Try.prog [sPeriod] 100 3 [.int .i64 b] [] (fun v _ => some v) = some (.bool true) := by
  rw [lawPeriods_ev, and_m5, wrap_id (n := b % 32 + 1) (by omega) (by omega)]
  have h1 : per (b % 32) = per b := by unfold per; rw [show b % 32 % 32 = b % 32 by omega]
  have h2 : per (bitI .or .i64 b 128) = per b := by unfold per; rw [or128_mod32]
  rw [h1, h2]
  by_cases h : b % 32 = 31
  · have : per b = 64 := by unfold per; rw [if_pos h]
    rw [this, h]; rfl
  · have hp : per b = 128 * (31 - b % 32) := by unfold per; rw [if_neg h]
    have hq : per (b % 32 + 1) < per b := by rw [hp]; unfold per; split <;> omega
    have e1 : decide (per b < 64) = false := by simp; omega
    have e2 : decide (per b > 3968) = false := by simp; omega
    have e3 : (b % 32 == 31) = false := by simpa using h
    have e4 : decide (b % 32 < 31) = true := by simp; omega
    have e5 : decide (per b > per (b % 32 + 1)) = true := by simpa using hq
    have e6 : ((per b).tmod 128 == 0) = true := by rw [hp]; simp
    simp only [e1, e2, e3, e4, e5, e6, bne_self_eq_false, cond_false, cond_true]
end Go.Proofs.Ytcmlhcabbnpibaa
