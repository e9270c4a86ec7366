import Derived.Test.YtecbemlfhmepfaaAluJ
set_option linter.unusedVariables false
set_option linter.unusedSimpArgs false
namespace Go.Proofs.Ytecbemlfhmepfaa
open Go Go.R
def isD (p : Int) : Bool := p / 8 % 2 == 1
def adcR (a m p : Int) : Int := cond (isD p) (addR a m p) (sumR a m p)
def adcQ (a m p : Int) : Int := cond (isD p) (addQ a m p) (sumQ a m p)
def sbcR (a m p : Int) : Int := cond (isD p) (subR a m p) (sumR a (255 - m) p)
def sbcQ (a m p : Int) : Int := cond (isD p) (subQ a m p) (sumQ a (255 - m) p)
theorem over_adc (a m r : Int) : over a m r = ((sgn a == sgn m) && (sgn r != sgn a)) := by
  unfold over sgn
  cases decide (128 ≤ a) <;> cases decide (128 ≤ m) <;> cases decide (128 ≤ r) <;> rfl
theorem over_sbc (a m r : Int) (hm : isByte m = true) : over a (255 - m) r = ((sgn a != sgn m) && (sgn r != sgn a)) := by
  have hm := byteI hm
  have : decide (128 ≤ 255 - m) = !decide (128 ≤ m) := by
    by_cases h : 128 ≤ m
    · rw [decide_eq_true h, decide_eq_false (by omega)]; rfl
    · rw [decide_eq_false h, decide_eq_true (by omega)]; rfl
  unfold over sgn
  rw [this]
  cases decide (128 ≤ a) <;> cases decide (128 ≤ m) <;> cases decide (128 ≤ r) <;> rfl
theorem sumR_byte {a m p : Int} : isByte (sumR a m p) = true := byteB _
theorem band {α : Type} (x y : Bool) (a b c : α) : cond x (cond y a b) b = cond (x && y) a b := by cases x <;> cases y <;> rfl
set_option maxHeartbeats 4000000 in
theorem adc_eq {a m p : Int} (ha : isByte a = true) (hm : isByte m = true) (hp : isByte p = true) :
    evCallH Try.prog [sSet, sRNZ, sSign, sRByte, sMod] [(15, .int .i64 (p % 2)), (49, .int .i64 (adcR a m p)), (61, .int .i64 (a + m + p % 2)), (63, .int .i64 (adcR a m p))] 100 25 [.int .i64 a, .int .i64 m, .int .i64 p] [] (fun v _ => some v) = some (.tup [.int .i64 (adcR a m p), .int .i64 (adcQ a m p)]) := by
  have ha' := byteI ha
  have hm' := byteI hm
  have hp' := byteI hp
  rw [adc_ev]
  simp only [tmod_pos ha'.1, tmod_pos hm'.1, tmod_pos hp'.1, tdiv_pos ha'.1, tdiv_pos hm'.1, tdiv_pos hp'.1]
  rw [wrap_id (n := p / 8) (by omega) (by omega), tmod_pos (show 0 ≤ p / 8 by omega)]
  by_cases hd : p / 8 % 2 = 1
  · have hD : isD p = true := by unfold isD; rw [hd]; rfl
    have eR : adcR a m p = addR a m p := by unfold adcR; rw [hD]; rfl
    have eQ : adcQ a m p = addQ a m p := by unfold adcQ; rw [hD]; rfl
    rw [eR, eQ]
    have hr := addR_byte (a := a) (m := m) (p := p)
    have hR : addR a m p = bcdH a m (p % 2) % 16 * 16 + bcdL a m (p % 2) % 16 := rfl
    obtain ⟨c1, c2, c3⟩ := add_cases a m (p % 2)
    rw [hd]
    simp only [byteM hp, byteM hr, nz_byte hp, ceq, cdec, Bool.and_self, Bool.and_true, cond_true, if_true]
    unfold addQ
    generalize hc : p % 2 = c at *
    have hc' : 0 ≤ c ∧ c ≤ 1 := by omega
    generalize hL : bcdL a m c = L at *
    generalize hG : bcdG a m c = G at *
    generalize hH : bcdH a m c = H at *
    generalize addR a m p = R at *
    simp (maxSteps := 2000000) (disch := omega) only [wrap_id, tmod_pos]
    rcases c1 with c1 | c1 <;> rcases c2 with c2 | c2 <;> rcases c3 with c3 | c3 <;> first | (exfalso; omega) | (simp (disch := omega) only [if_pos, if_neg, decide_eq_true, decide_eq_false, if_true])
  · have hD : isD p = false := by unfold isD; rw [beq_eq_false_iff_ne]; exact hd
    have eR : adcR a m p = sumR a m p := by unfold adcR; rw [hD]; rfl
    have eQ : adcQ a m p = sumQ a m p := by unfold adcQ; rw [hD]; rfl
    have hr : isByte (sumR a m p) = true := byteB _
    rw [eR, eQ]
    rw [show (p / 8 % 2 == 1) = false from hD]
    rw [wrap_id (n := a + m) (by omega) (by omega), wrap_id (n := a + m + p % 2) (by omega) (by omega), tmod_pos (show 0 ≤ a + m + p % 2 by omega)]
    rw [show ((a + m + p % 2) % 256 == sumR a m p) = true by simp [sumR]]
    have hs1 : ∀ b x, isByte (setF (nz p b) 1 x) = true := fun b x => setF_byte (nz_byte hp) rfl
    simp only [byteM hp, byteM hr, ha, hm, hr, nz_byte hp, hs1, beq_self_eq_true, Bool.and_self, cond_true, cond_false]
    unfold sumQ
    rw [over_adc]
    cases sgn a == sgn m <;> rfl
set_option maxHeartbeats 4000000 in
theorem nz_set {p : Int} (hp : isByte p = true) (x : Bool) (b : Int) : nz (setF p 1 x) b = setF (nz p b) 1 x := by
  have hp := byteI hp
  unfold nz setF
  cases decide (128 ≤ b) <;> cases (b == 0) <;> cases x <;> simp only [cond_true, cond_false] <;> omega
set_option maxHeartbeats 4000000 in
theorem sbc_eq {a m p : Int} (ha : isByte a = true) (hm : isByte m = true) (hp : isByte p = true) :
    evCallH Try.prog [sSet, sRNZ, sSign, sRByte, sMod] [(15, .int .i64 (p % 2)), (52, .int .i64 (sbcR a m p)), (62, .int .i64 (a - m - 1 + p % 2)), (64, .int .i64 (sbcR a m p))] 100 26 [.int .i64 a, .int .i64 m, .int .i64 p] [] (fun v _ => some v) = some (.tup [.int .i64 (sbcR a m p), .int .i64 (sbcQ a m p)]) := by
  have ha' := byteI ha
  have hm' := byteI hm
  have hp' := byteI hp
  rw [sbc_ev]
  simp only [tmod_pos ha'.1, tmod_pos hm'.1, tmod_pos hp'.1, tdiv_pos ha'.1, tdiv_pos hm'.1, tdiv_pos hp'.1]
  rw [wrap_id (n := p / 8) (by omega) (by omega), tmod_pos (show 0 ≤ p / 8 by omega)]
  by_cases hd : p / 8 % 2 = 1
  · have hD : isD p = true := by unfold isD; rw [hd]; rfl
    have eR : sbcR a m p = subR a m p := by unfold sbcR; rw [hD]; rfl
    have eQ : sbcQ a m p = subQ a m p := by unfold sbcQ; rw [hD]; rfl
    rw [eR, eQ]
    have hr := subR_byte (a := a) (m := m) (p := p)
    have hR : subR a m p = sbcH a m (p % 2) % 16 * 16 + sbcL a m (p % 2) % 16 := rfl
    obtain ⟨c1, c2⟩ := sub_cases a m (p % 2)
    rw [hd]
    have hs : ∀ x, setF p 1 x % 256 = setF p 1 x := fun x => byteM (setF_byte hp rfl)
    simp only [hs, hp, nz_set hp, byteM hp, byteM hr, nz_byte hp, ceq, cdec, Bool.and_self, Bool.and_true, cond_true, if_true]
    unfold subQ
    generalize hc : p % 2 = c at *
    have hc' : 0 ≤ c ∧ c ≤ 1 := by omega
    generalize hL : sbcL a m c = L at *
    generalize hG : sbcG a m c = G at *
    generalize hH : sbcH a m c = H at *
    generalize subR a m p = R at *
    simp (maxSteps := 2000000) (disch := omega) only [wrap_id, tmod_pos]
    rcases c1 with c1 | c1 <;> rcases c2 with c2 | c2 <;> first | (exfalso; omega) | (simp (disch := omega) only [if_pos, if_neg, decide_eq_true, decide_eq_false, if_true])
  · have hD : isD p = false := by unfold isD; rw [beq_eq_false_iff_ne]; exact hd
    have eR : sbcR a m p = sumR a (255 - m) p := by unfold sbcR; rw [hD]; rfl
    have eQ : sbcQ a m p = sumQ a (255 - m) p := by unfold sbcQ; rw [hD]; rfl
    have hr : isByte (sumR a (255 - m) p) = true := byteB _
    rw [eR, eQ]
    rw [show (p / 8 % 2 == 1) = false from hD]
    rw [wrap_id (n := a - m) (by omega) (by omega), wrap_id (n := a - m - 1) (by omega) (by omega), wrap_id (n := a - m - 1 + p % 2) (by omega) (by omega)]
    rw [show ((a - m - 1 + p % 2) % 256 == sumR a (255 - m) p) = true by rw [beq_iff_eq]; unfold sumR; omega]
    rw [show decide (a - m - 1 + p % 2 ≥ 0) = decide (a + (255 - m) + p % 2 > 255) by rw [decide_eq_decide]; omega]
    have hs1 : ∀ b x, isByte (setF (nz p b) 1 x) = true := fun b x => setF_byte (nz_byte hp) rfl
    simp only [byteM hp, byteM hr, ha, hm, hr, nz_byte hp, hs1, beq_self_eq_true, Bool.and_self, cond_true, cond_false]
    unfold sumQ
    rw [over_sbc _ _ _ hm]
    cases sgn a != sgn m <;> rfl
def sAdc : Summ Try.prog := mkPure [sSet, sRNZ, sSign, sRByte, sMod] hN hM 25 100 (fun args => match args with | [.int .i64 a, .int .i64 m, .int .i64 p] => some (isByte a && isByte m && isByte p, .tup [.int .i64 (adcR a m p), .int .i64 (adcQ a m p)]) | _ => none) (by
  intro args v h
  split at h
  · simp only [Option.some.injEq, Prod.mk.injEq, Bool.and_eq_true] at h; obtain ⟨hc, rfl⟩ := h; exact ⟨rfl, rfl, _, adc_eq hc.1.1 hc.1.2 hc.2⟩
  · cases h)
def sSbc : Summ Try.prog := mkPure [sSet, sRNZ, sSign, sRByte, sMod] hN hM 26 100 (fun args => match args with | [.int .i64 a, .int .i64 m, .int .i64 p] => some (isByte a && isByte m && isByte p, .tup [.int .i64 (sbcR a m p), .int .i64 (sbcQ a m p)]) | _ => none) (by
  intro args v h
  split at h
  · simp only [Option.some.injEq, Prod.mk.injEq, Bool.and_eq_true] at h; obtain ⟨hc, rfl⟩ := h; exact ⟨rfl, rfl, _, sbc_eq hc.1.1 hc.1.2 hc.2⟩
  · cases h)
end Go.Proofs.Ytecbemlfhmepfaa
