import Derived.Test.YtecbemlfhmepfaaAluG
set_option linter.unusedVariables false
set_option linter.unusedSimpArgs false
namespace Go.Proofs.Ytecbemlfhmepfaa
open Go Go.R
theorem rnz_eq (p b : Int) : evCallH Try.prog [sSet, sRByte] [(6, .int .i64 (b % 256))] 100 14 [.int .i64 p, .int .i64 b] [] (fun v _ => some v) = some (.int .i64 (nz (p % 256) (b % 256))) := by
  rw [rnz_ev, setF_byte (byteB p) rfl, byteB p]
  simp only [beq_self_eq_true, Bool.and_self, cond_true]
  rfl
def sRNZ : Summ Try.prog := mkPure [sSet, sRByte] hN hM 14 100 (fun args => match args with | [.int .i64 p, .int .i64 b] => some (true, .int .i64 (nz (p % 256) (b % 256))) | _ => none) (by
  intro args v h
  split at h
  · simp only [Option.some.injEq, Prod.mk.injEq, true_and] at h; subst h; exact ⟨rfl, rfl, _, rnz_eq _ _⟩
  · cases h)
/-- a sum's flag V -/
def over (a m r : Int) : Bool := (decide (128 ≤ a) != decide (128 ≤ r)) && (decide (128 ≤ m) != decide (128 ≤ r))
theorem tb7 {x : Nat} (h : x < 256) : x.testBit 7 = decide (128 ≤ (x : Int)) := by
  rw [Nat.testBit_eq_decide_div_mod_eq, decide_eq_decide]
  simp only [Nat.reducePow]; omega
theorem over_eq {a m r : Int} (ha : isByte a = true) (hm : isByte m = true) (hr : isByte r = true) : (bitI .and .i64 (bitI .and .i64 (bitI .xor .i64 a r) (bitI .xor .i64 m r)) 128 != 0) = over a m r := by
  have ha := byteI ha
  have hm := byteI hm
  have hr := byteI hr
  obtain ⟨A, rfl⟩ := Int.eq_ofNat_of_zero_le ha.1
  obtain ⟨M, rfl⟩ := Int.eq_ofNat_of_zero_le hm.1
  obtain ⟨R, rfl⟩ := Int.eq_ofNat_of_zero_le hr.1
  have h1 : (A ^^^ R) < 2 ^ 8 := Nat.xor_lt_two_pow (by omega) (by omega)
  have h2 : (M ^^^ R) < 2 ^ 8 := Nat.xor_lt_two_pow (by omega) (by omega)
  have h3 : ((A ^^^ R) &&& (M ^^^ R)) < 2 ^ 8 := Nat.and_lt_two_pow _ h2
  rw [xor_nat (by omega) (by omega) (by omega) (by omega), xor_nat (by omega) (by omega) (by omega) (by omega)]
  simp only [Int.toNat_natCast]
  rw [(bt128 _).2, and_nat (by omega) (by omega) (by omega) (by omega)]
  simp only [Int.toNat_natCast]
  have h4 : bt 128 (((A ^^^ R) &&& (M ^^^ R) : Nat) : Int) = ((A ^^^ R) &&& (M ^^^ R)).testBit 7 := by
    unfold bt; rw [Nat.testBit_eq_decide_div_mod_eq, decide_eq_decide]; simp only [Nat.reducePow]; omega
  rw [h4, Nat.testBit_and, Nat.testBit_xor, Nat.testBit_xor, tb7 (by omega), tb7 (by omega), tb7 (by omega)]
  unfold over
  cases decide (128 ≤ (A : Int)) <;> cases decide (128 ≤ (M : Int)) <;> cases decide (128 ≤ (R : Int)) <;> rfl
def sumR (a m p : Int) : Int := (a + m + p % 2) % 256
def sumQ (a m p : Int) : Int := setF (setF (nz p (sumR a m p)) 1 (decide (a + m + p % 2 > 255))) 64 (over a m (sumR a m p))
theorem sum_eq {a m p : Int} (ha : isByte a = true) (hm : isByte m = true) (hp : isByte p = true) : evCallH Try.prog [sWith, sByte, sNZ] [(15, .int .i64 (a + m + p % 2)), (17, .int .i64 (sumR a m p))] 100 17 [.int .i64 a, .int .i64 m, .int .i64 p] [] (fun v _ => some v) = some (.tup [.int .i64 (sumR a m p), .int .i64 (sumQ a m p)]) := by
  have hr : isByte (sumR a m p) = true := byteB _
  have ha' := byteI ha
  have hm' := byteI hm
  have hp' := byteI hp
  rw [sum_ev, and_0b, wrap_id (n := a + m) (by omega) (by omega), wrap_id (by omega) (by omega), byteM hp, byteM hr, nz_byte hp, setF_byte (nz_byte hp) rfl, over_eq ha hm hr]
  have hc : decide (a + m + p % 2 > sumR a m p) = decide (a + m + p % 2 > 255) := by rw [decide_eq_decide]; unfold sumR; omega
  rw [hc]
  have e2 : ((a + m + p % 2) % 256 == sumR a m p) = true := by simp [sumR]
  rw [e2]
  simp only [beq_self_eq_true, Bool.and_self, cond_true]
  rfl
def sSum : Summ Try.prog := mkPure [sWith, sByte, sNZ] hN hM 17 100 (fun args => match args with | [.int .i64 a, .int .i64 m, .int .i64 p] => some (isByte a && isByte m && isByte p, .tup [.int .i64 (sumR a m p), .int .i64 (sumQ a m p)]) | _ => none) (by
  intro args v h
  split at h
  · simp only [Option.some.injEq, Prod.mk.injEq, Bool.and_eq_true] at h; obtain ⟨hc, rfl⟩ := h; exact ⟨rfl, rfl, _, sum_eq hc.1.1 hc.1.2 hc.2⟩
  · cases h)
def shiftR (op m p : Int) : Int := if op = 9 then m * 2 % 256 else if op = 10 then m * 2 % 256 + p % 2 else if op = 11 then m / 2 else m / 2 + p % 2 * 128
def shiftC (op m : Int) : Bool := if op = 9 ∨ op = 10 then decide (m ≥ 128) else m % 2 == 1
def shiftQ (op m p : Int) : Int := setF (nz p (shiftR op m p)) 1 (shiftC op m)
def isShift (op : Int) : Bool := op == 9 || op == 10 || op == 11 || op == 12
theorem or_zero (x : Int) (h : isByte x = true) : bitI .or .i64 x 0 = x := by
  have h := byteI h
  rw [or_nat (by omega) (by omega) (by omega) (by omega)]; simp; omega
theorem or_low : ∀ x, x < 128 → Nat.beq (2 * x ||| 1) (2 * x + 1) = true := allB_spec (by decide +kernel)
theorem or_high : ∀ x, x < 128 → Nat.beq (x ||| 128) (x + 128) = true := allB_spec (by decide +kernel)
theorem shift_eq {op m p : Int} (ho : isShift op = true) (hm : isByte m = true) (hp : isByte p = true) : evCallH Try.prog [sWith, sByte, sNZ] [(24, .int .i64 (shiftR op m p)), (33, .int .i64 (shiftR op m p))] 100 22 [.int .i64 op, .int .i64 m, .int .i64 p] [] (fun v _ => some v) = some (.tup [.int .i64 (shiftR op m p), .int .i64 (shiftQ op m p)]) := by
  have hm' := byteI hm
  have hp' := byteI hp
  have ho' : op = 9 ∨ op = 10 ∨ op = 11 ∨ op = 12 := by simp only [isShift, Bool.or_eq_true, beq_iff_eq] at ho; omega
  have hr : isByte (shiftR op m p) = true := by
    simp only [isByte, Bool.and_eq_true, decide_eq_true_eq]
    unfold shiftR
    rcases ho' with rfl | rfl | rfl | rfl <;> simp <;> omega
  have c1 : bt 128 m = decide (m ≥ 128) := bt128_byte hm
  have c2 : bt 1 m = (m % 2 == 1) := by
    unfold bt; rw [show m / 1 = m by omega, Bool.eq_iff_iff]; simp
  have p2 : p % 2 = 0 ∨ p % 2 = 1 := by omega
  rcases ho' with rfl | rfl | rfl | rfl
  · have e : shiftR 9 m p = m * 2 % 256 := rfl
    rw [e] at hr ⊢
    rw [shift9_ev, wrap_id (by omega) (by omega), or_zero _ hr, byteM hp, byteM hr, nz_byte hp, (bt128 _).2, c1]
    simp only [beq_self_eq_true, Bool.and_self, cond_true]
    rfl
  · have e : shiftR 10 m p = m * 2 % 256 + p % 2 := rfl
    have h : bitI .or .i64 (m * 2 % 256) (p % 2) = m * 2 % 256 + p % 2 := by
      rcases p2 with h | h <;> rw [h]
      · rw [or_zero _ (byteB _)]; omega
      · have h3 := Nat.eq_of_beq_eq_true (or_low (m % 128).toNat (by omega))
        rw [or_nat (by omega) (by omega) (by omega) (by omega), show (m * 2 % 256).toNat = 2 * (m % 128).toNat by omega, show Int.toNat 1 = 1 from rfl, h3]; omega
    rw [e] at hr ⊢
    rw [shift10_ev, wrap_id (by omega) (by omega), and_0b, h, byteM hp, byteM hr, nz_byte hp, (bt128 _).2, c1]
    simp only [beq_self_eq_true, Bool.and_self, cond_true]
    rfl
  · have e : shiftR 11 m p = m / 2 := rfl
    rw [e] at hr ⊢
    rw [shift11_ev, fdiv_pos m (show (0 : Int) ≤ 2 by decide), or_zero _ hr, byteM hp, byteM hr, nz_byte hp, (bt1 _).2, c2]
    simp only [beq_self_eq_true, Bool.and_self, cond_true]
    rfl
  · have e : shiftR 12 m p = m / 2 + p % 2 * 128 := rfl
    have h : bitI .or .i64 (m / 2) (p % 2 * 128) = m / 2 + p % 2 * 128 := by
      rcases p2 with h | h <;> rw [h]
      · rw [show (0 : Int) * 128 = 0 from rfl, or_zero _ (by simp only [isByte, Bool.and_eq_true, decide_eq_true_eq]; omega)]; omega
      · have h3 := Nat.eq_of_beq_eq_true (or_high (m / 2).toNat (by omega))
        rw [or_nat (by omega) (by omega) (by omega) (by omega), show Int.toNat (1 * 128) = 128 from rfl, h3]; omega
    rw [e] at hr ⊢
    rw [shift12_ev, fdiv_pos m (show (0 : Int) ≤ 2 by decide), and_0b, wrap_id (n := p % 2 * 128) (by omega) (by omega), h, byteM hp, byteM hr, nz_byte hp, (bt1 _).2, c2]
    simp only [beq_self_eq_true, Bool.and_self, cond_true]
    rfl
def sShift : Summ Try.prog := mkPure [sWith, sByte, sNZ] hN hM 22 100 (fun args => match args with | [.int .i64 op, .int .i64 m, .int .i64 p] => some (isShift op && isByte m && isByte p, .tup [.int .i64 (shiftR op m p), .int .i64 (shiftQ op m p)]) | _ => none) (by
  intro args v h
  split at h
  · simp only [Option.some.injEq, Prod.mk.injEq, Bool.and_eq_true] at h; obtain ⟨hc, rfl⟩ := h; exact ⟨rfl, rfl, _, shift_eq hc.1.1 hc.1.2 hc.2⟩
  · cases h)
end Go.Proofs.Ytecbemlfhmepfaa
