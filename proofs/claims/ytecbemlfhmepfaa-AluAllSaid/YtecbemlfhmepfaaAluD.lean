import Derived.Test.YtecbemlfhmepfaaAluC
set_option linter.unusedVariables false
set_option linter.unusedSimpArgs false
namespace Go.Proofs.Ytecbemlfhmepfaa
open Go Go.R
theorem byteB (n : Int) : isByte (n % 256) = true := by simp only [isByte, Bool.and_eq_true, decide_eq_true_eq]; omega
theorem byteI {n : Int} (h : isByte n = true) : 0 ≤ n ∧ n < 256 := by simpa only [isByte, Bool.and_eq_true, decide_eq_true_eq] using h
theorem byteM {n : Int} (h : isByte n = true) : n % 256 = n := by have := byteI h; omega
def sRByte : Summ Try.prog := mkPure [sMod] hN hM 23 100 (fun args => match args with | [.int .i64 n] => some (true, .int .i64 (n % 256)) | _ => none) (by
  intro args v h
  split at h
  · simp only [Option.some.injEq, Prod.mk.injEq, true_and] at h; subst h; exact ⟨rfl, rfl, [], rbyte_ev _⟩
  · cases h)
def sRWord : Summ Try.prog := mkPure [sMod] hN hM 35 100 (fun args => match args with | [.int .i64 n] => some (true, .int .i64 (n % 65536)) | _ => none) (by
  intro args v h
  split at h
  · simp only [Option.some.injEq, Prod.mk.injEq, true_and] at h; subst h; exact ⟨rfl, rfl, [], rword_ev _⟩
  · cases h)
def nz (P B : Int) : Int := setF (setF P 128 (decide (128 ≤ B))) 2 (B == 0)
theorem nz_byte {P B : Int} (h : isByte P = true) : isByte (nz P B) = true := setF_byte (setF_byte h rfl) rfl
theorem bt128_byte {n : Int} (h : isByte n = true) : bt 128 n = decide (128 ≤ n) := by
  have := byteI h
  unfold bt
  rw [decide_eq_decide]; omega
theorem nz_eq (p b : Int) : evCallH Try.prog [sWith, sByte] [(6, .int .i64 (b % 256))] 100 13 [.int .i64 p, .int .i64 b] [] (fun v _ => some v) = some (.int .i64 (nz (p % 256) (b % 256))) := by
  rw [nz_ev, (bt128 _).2, bt128_byte (byteB b), setF_byte (byteB p) rfl, byteB p]
  simp only [beq_self_eq_true, Bool.and_self, cond_true]
  rfl
def sNZ : Summ Try.prog := mkPure [sWith, sByte] hN hM 13 100 (fun args => match args with | [.int .i64 p, .int .i64 b] => some (true, .int .i64 (nz (p % 256) (b % 256))) | _ => none) (by
  intro args v h
  split at h
  · simp only [Option.some.injEq, Prod.mk.injEq, true_and] at h; subst h; exact ⟨rfl, rfl, _, nz_eq _ _⟩
  · cases h)
def testV (p m : Int) (on : Bool) : Int := setF (setF (setF p 128 (decide (128 ≤ m))) 64 (m / 64 % 2 == 1)) 2 on
theorem test_all : ∀ p, p < 256 → allB (fun m => Nat.beq ((p ^^^ (p &&& 192)) ||| (m &&& 192)) (p % 64 + m / 64 * 64)) 256 = true := allB_spec (by decide +kernel)
theorem test_bits {p m : Int} (hp : isByte p = true) (hm : isByte m = true) : bitI .or .i64 (bitI .andNot .i64 p 192) (bitI .and .i64 m 192) = p % 64 + m / 64 * 64 := by
  have hp := byteI hp
  have hm := byteI hm
  obtain ⟨k, rfl⟩ := Int.eq_ofNat_of_zero_le hp.1
  obtain ⟨g, rfl⟩ := Int.eq_ofNat_of_zero_le hm.1
  have h := Nat.eq_of_beq_eq_true (allB_spec (test_all k (by omega)) g (by omega))
  rw [andNot_nat (by omega) (by omega) (by decide) (by decide), and_nat (by omega) (by omega) (by decide) (by decide)]
  have e : Int.toNat 192 = 192 := rfl
  rw [e, Int.toNat_natCast, Int.toNat_natCast]
  have h1 : (k ^^^ (k &&& 192)) < 2 ^ 8 := Nat.xor_lt_two_pow (by omega) (Nat.lt_of_le_of_lt Nat.and_le_left (by omega))
  have h2 : g &&& 192 < 2 ^ 8 := Nat.lt_of_le_of_lt Nat.and_le_left (by omega)
  rw [or_nat (by omega) (by omega) (by omega) (by omega), Int.toNat_natCast, Int.toNat_natCast, h]
  omega
theorem two_arith {p m : Int} (hp : isByte p = true) (hm : isByte m = true) : p % 64 + m / 64 * 64 = setF (setF p 128 (decide (128 ≤ m))) 64 (m / 64 % 2 == 1) := by
  have hp := byteI hp
  have hm := byteI hm
  unfold setF
  cases h1 : decide (128 ≤ m) <;> cases h2 : (m / 64 % 2 == 1) <;> simp only [decide_eq_true_eq, decide_eq_false_iff_not, beq_iff_eq, beq_eq_false_iff_ne, cond_true, cond_false] at * <;> omega
theorem test_eq {p m : Int} {on : Bool} (hp : isByte p = true) (hm : isByte m = true) : evCall Try.prog [sWith] 100 21 [.int .i64 p, .int .i64 m, .bool on] [] (fun v _ => some v) = some (.int .i64 (testV p m on)) := by
  rw [test_ev, test_bits hp hm, two_arith hp hm, setF_byte (setF_byte hp rfl) rfl]
  rfl
def sTest : Summ Try.prog := mkPure [sWith] hN hM 21 100 (fun args => match args with | [.int .i64 p, .int .i64 m, .bool on] => some (isByte p && isByte m, .int .i64 (testV p m on)) | _ => none) (by
  intro args v h
  split at h
  · simp only [Option.some.injEq, Prod.mk.injEq, Bool.and_eq_true] at h; obtain ⟨hc, rfl⟩ := h; exact ⟨rfl, rfl, [], test_eq hc.1 hc.2⟩
  · cases h)
theorem two_eq {p m : Int} (hp : isByte p = true) (hm : isByte m = true) : evCall Try.prog [sSet] 100 28 [.int .i64 p, .int .i64 m] [] (fun v _ => some v) = some (.int .i64 (setF (setF p 128 (decide (128 ≤ m))) 64 (m / 64 % 2 == 1))) := by
  have hm' := byteI hm
  rw [two_ev, setF_byte hp rfl, hp, tdiv_pos hm'.1, wrap_id (by omega) (by omega), tmod_pos (by omega)]
  rfl
def sTwo : Summ Try.prog := mkPure [sSet] hN hM 28 100 (fun args => match args with | [.int .i64 p, .int .i64 m] => some (isByte p && isByte m, .int .i64 (setF (setF p 128 (decide (128 ≤ m))) 64 (m / 64 % 2 == 1))) | _ => none) (by
  intro args v h
  split at h
  · simp only [Option.some.injEq, Prod.mk.injEq, Bool.and_eq_true] at h; obtain ⟨hc, rfl⟩ := h; exact ⟨rfl, rfl, [], two_eq hc.1 hc.2⟩
  · cases h)
def sgn (n : Int) : Int := cond (decide (128 ≤ n)) 1 0
theorem sign_eq {n : Int} (h : isByte n = true) : evCall Try.prog [] 100 34 [.int .i64 n] [] (fun v _ => some v) = some (.int .i64 (sgn n)) := by
  have h := byteI h
  rw [sign_ev, tdiv_pos h.1, wrap_id (by omega) (by omega)]
  unfold sgn
  by_cases h2 : 128 ≤ n
  · rw [decide_eq_true h2, cond_true, show n / 128 = 1 by omega]
  · rw [decide_eq_false h2, cond_false, show n / 128 = 0 by omega]
def sSign : Summ Try.prog := mkPure [] hN hM 34 100 (fun args => match args with | [.int .i64 n] => some (isByte n, .int .i64 (sgn n)) | _ => none) (by
  intro args v h
  split at h
  · simp only [Option.some.injEq, Prod.mk.injEq] at h; obtain ⟨hc, rfl⟩ := h; exact ⟨rfl, rfl, [], sign_eq hc⟩
  · cases h)
end Go.Proofs.Ytecbemlfhmepfaa
