import Derived.Test.YtecbemlfhmepfaaAluE
set_option linter.unusedVariables false
set_option linter.unusedSimpArgs false
namespace Go.Proofs.Ytecbemlfhmepfaa
open Go Go.R
/-! ### wraps within wraps -/
theorem wr64 (n : Int) : wr .i64 n = (n + 9223372036854775808) % 18446744073709551616 - 9223372036854775808 := wrap_eq n
theorem wr_shift (n t : Int) : wr .i64 (n - 18446744073709551616 * t) = wr .i64 n := by rw [wr64, wr64]; omega
theorem wr_cut (n : Int) : ∃ t, wr .i64 n = n - 18446744073709551616 * t := ⟨(n + 9223372036854775808) / 18446744073709551616, by rw [wr64]; omega⟩
theorem wr_add_l (a b : Int) : wr .i64 (wr .i64 a + b) = wr .i64 (a + b) := by rw [wr64, wr64, wr64]; omega
theorem wr_add_r (a b : Int) : wr .i64 (a + wr .i64 b) = wr .i64 (a + b) := by rw [wr64, wr64, wr64]; omega
theorem wr_sub_l (a b : Int) : wr .i64 (wr .i64 a - b) = wr .i64 (a - b) := by rw [wr64, wr64, wr64]; omega
theorem wr_sub_r (a b : Int) : wr .i64 (a - wr .i64 b) = wr .i64 (a - b) := by rw [wr64, wr64, wr64]; omega
theorem wr_mul_l (a b : Int) : wr .i64 (wr .i64 a * b) = wr .i64 (a * b) := by
  obtain ⟨t, e⟩ := wr_cut a
  rw [e, Int.sub_mul, Int.mul_assoc, wr_shift]
theorem wr_mul_r (a b : Int) : wr .i64 (a * wr .i64 b) = wr .i64 (a * b) := by rw [Int.mul_comm, wr_mul_l, Int.mul_comm]
/-- the bits of a byte -/
theorem bitx {a d : Int} (ha : isByte a = true) (hd : d = 1 ∨ d = 2 ∨ d = 4 ∨ d = 8 ∨ d = 16 ∨ d = 32 ∨ d = 64 ∨ d = 128) : (wr .i64 ((a % 65536).tdiv d)).tmod 2 = a / d % 2 := by
  have ha := byteI ha
  rw [tdiv_pos (by omega), show a % 65536 = a by omega]
  rcases hd with rfl | rfl | rfl | rfl | rfl | rfl | rfl | rfl <;> (rw [wrap_id (by omega) (by omega), tmod_pos (by omega)])
theorem and_step (a m : Nat) : a &&& m = 2 * (a / 2 &&& m / 2) + (a % 2) * (m % 2) := by
  have h1 : (a &&& m) / 2 = a / 2 &&& m / 2 := by apply Nat.eq_of_testBit_eq; intro i; simp [Nat.testBit_div_two, Nat.testBit_and]
  have h2 : (a &&& m) % 2 = (a % 2) * (m % 2) := by
    have := Nat.and_mod_two_pow (a := a) (b := m) (n := 1)
    rw [show (2 : Nat) ^ 1 = 2 from rfl] at this
    rw [this]
    rcases Nat.mod_two_eq_zero_or_one a with h | h <;> rcases Nat.mod_two_eq_zero_or_one m with h' | h' <;> rw [h, h'] <;> rfl
  omega
theorem or_step (a m : Nat) : (a ||| m) + (a % 2) * (m % 2) = 2 * (a / 2 ||| m / 2) + (a % 2) + (m % 2) := by
  have h1 : (a ||| m) / 2 = a / 2 ||| m / 2 := by apply Nat.eq_of_testBit_eq; intro i; simp [Nat.testBit_div_two, Nat.testBit_or]
  have h2 : (a ||| m) % 2 + (a % 2) * (m % 2) = (a % 2) + (m % 2) := by
    have := Nat.or_mod_two_pow (a := a) (b := m) (n := 1)
    rw [show (2 : Nat) ^ 1 = 2 from rfl] at this
    rw [this]
    rcases Nat.mod_two_eq_zero_or_one a with h | h <;> rcases Nat.mod_two_eq_zero_or_one m with h' | h' <;> rw [h, h'] <;> rfl
  omega
theorem xor_step (a m : Nat) : (a ^^^ m) + 2 * ((a % 2) * (m % 2)) = 2 * (a / 2 ^^^ m / 2) + (a % 2) + (m % 2) := by
  have h1 : (a ^^^ m) / 2 = a / 2 ^^^ m / 2 := by apply Nat.eq_of_testBit_eq; intro i; simp [Nat.testBit_div_two, Nat.testBit_xor]
  have h2 : (a ^^^ m) % 2 + 2 * ((a % 2) * (m % 2)) = (a % 2) + (m % 2) := by
    have := Nat.xor_mod_two_pow (a := a) (b := m) (n := 1)
    rw [show (2 : Nat) ^ 1 = 2 from rfl] at this
    rw [this]
    rcases Nat.mod_two_eq_zero_or_one a with h | h <;> rcases Nat.mod_two_eq_zero_or_one m with h' | h' <;> rw [h, h'] <;> rfl
  omega
end Go.Proofs.Ytecbemlfhmepfaa
