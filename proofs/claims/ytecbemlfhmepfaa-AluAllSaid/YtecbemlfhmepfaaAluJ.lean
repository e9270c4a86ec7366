import Derived.Test.YtecbemlfhmepfaaAluI
set_option linter.unusedVariables false
set_option linter.unusedSimpArgs false
namespace Go.Proofs.Ytecbemlfhmepfaa
open Go Go.R
theorem or_nib_all : ∀ h, h < 16 → allB (fun l => Nat.beq (16 * h ||| l) (16 * h + l)) 16 = true := allB_spec (by decide +kernel)
theorem or_nib {h l : Int} (h0 : 0 ≤ h) (h1 : h < 16) (l0 : 0 ≤ l) (l1 : l < 16) : bitI .or .i64 (h * 16) l = h * 16 + l := by
  have h3 := Nat.eq_of_beq_eq_true (allB_spec (or_nib_all h.toNat (by omega)) l.toNat (by omega))
  rw [or_nat (by omega) (by omega) (by omega) (by omega), show (h * 16).toNat = 16 * h.toNat by omega, h3]; omega
/-- decimal sums: the lower digit, the upper one -/
def bcdL (a m c : Int) : Int := if a % 16 + m % 16 + c > 9 then a % 16 + m % 16 + c + 6 else a % 16 + m % 16 + c
def bcdG (a m c : Int) : Int := if bcdL a m c > 15 then a / 16 + m / 16 + 1 else a / 16 + m / 16
def bcdH (a m c : Int) : Int := if bcdG a m c > 9 then bcdG a m c + 6 else bcdG a m c
def addR (a m p : Int) : Int := bcdH a m (p % 2) % 16 * 16 + bcdL a m (p % 2) % 16
def addQ (a m p : Int) : Int := setF (nz p (addR a m p)) 1 (decide (bcdH a m (p % 2) > 15))
theorem add_cases (a m c : Int) :
    ((a % 16 + m % 16 + c > 9 ∧ bcdL a m c = a % 16 + m % 16 + c + 6) ∨ (¬ a % 16 + m % 16 + c > 9 ∧ bcdL a m c = a % 16 + m % 16 + c)) ∧
    ((bcdL a m c > 15 ∧ bcdG a m c = a / 16 + m / 16 + 1) ∨ (¬ bcdL a m c > 15 ∧ bcdG a m c = a / 16 + m / 16)) ∧
    ((bcdG a m c > 9 ∧ bcdH a m c = bcdG a m c + 6) ∨ (¬ bcdG a m c > 9 ∧ bcdH a m c = bcdG a m c)) := by
  refine ⟨?_, ?_, ?_⟩
  · unfold bcdL; split <;> simp_all
  · unfold bcdG; split <;> simp_all
  · rw [show bcdH a m c = if bcdG a m c > 9 then bcdG a m c + 6 else bcdG a m c from rfl]; split <;> simp_all
theorem addR_byte {a m p : Int} : isByte (addR a m p) = true := by
  simp only [isByte, Bool.and_eq_true, decide_eq_true_eq]; unfold addR; omega
set_option maxHeartbeats 4000000 in
theorem add_eq {a m p : Int} (ha : isByte a = true) (hm : isByte m = true) (hp : isByte p = true) :
    evCallH Try.prog [sWith, sByte, sNZ] [(13, .int .i64 (p % 2)), (18, .int .i64 (bcdL a m (p % 2) % 16)), (24, .int .i64 (bcdH a m (p % 2) % 16)), (27, .int .i64 (addR a m p))] 100 18 [.int .i64 a, .int .i64 m, .int .i64 p] [] (fun v _ => some v) = some (.tup [.int .i64 (addR a m p), .int .i64 (addQ a m p)]) := by
  have ha' := byteI ha
  have hm' := byteI hm
  have hp' := byteI hp
  have hr := addR_byte (a := a) (m := m) (p := p)
  have hR : addR a m p = bcdH a m (p % 2) % 16 * 16 + bcdL a m (p % 2) % 16 := rfl
  obtain ⟨c1, c2, c3⟩ := add_cases a m (p % 2)
  rw [add_ev]
  simp only [and_0b, and_m4, fdiv_pos a (show (0 : Int) ≤ 16 by decide), fdiv_pos m (show (0 : Int) ≤ 16 by decide), byteM hp, byteM hr, nz_byte hp, ceq, cdec, Bool.and_self, Bool.and_true, cond_true]
  unfold addQ
  generalize hc : p % 2 = c at *
  have hc' : 0 ≤ c ∧ c ≤ 1 := by omega
  generalize hL : bcdL a m c = L at *
  generalize hG : bcdG a m c = G at *
  generalize hH : bcdH a m c = H at *
  generalize addR a m p = R at *
  simp (maxSteps := 2000000) (disch := omega) only [wrap_id, or_nib]
  rcases c1 with c1 | c1 <;> rcases c2 with c2 | c2 <;> rcases c3 with c3 | c3 <;> first | (exfalso; omega) | (simp (disch := omega) only [if_pos, if_neg, decide_eq_true, decide_eq_false, if_true])
def sAdd : Summ Try.prog := mkPure [sWith, sByte, sNZ] hN hM 18 100 (fun args => match args with | [.int .i64 a, .int .i64 m, .int .i64 p] => some (isByte a && isByte m && isByte p, .tup [.int .i64 (addR a m p), .int .i64 (addQ a m p)]) | _ => none) (by
  intro args v h
  split at h
  · simp only [Option.some.injEq, Prod.mk.injEq, Bool.and_eq_true] at h; obtain ⟨hc, rfl⟩ := h; exact ⟨rfl, rfl, _, add_eq hc.1.1 hc.1.2 hc.2⟩
  · cases h)

/-! ### differences -/
def sbcL (a m c : Int) : Int := if a % 16 - m % 16 - 1 + c < 0 then a % 16 - m % 16 - 1 + c - 6 else a % 16 - m % 16 - 1 + c
def sbcG (a m c : Int) : Int := if a % 16 - m % 16 - 1 + c < 0 then a / 16 - m / 16 - 1 else a / 16 - m / 16
def sbcH (a m c : Int) : Int := if sbcG a m c < 0 then sbcG a m c - 6 else sbcG a m c
def subR (a m p : Int) : Int := sbcH a m (p % 2) % 16 * 16 + sbcL a m (p % 2) % 16
def subQ (a m p : Int) : Int := setF (nz p (subR a m p)) 1 (decide (sbcG a m (p % 2) ≥ 0))
theorem sub_cases (a m c : Int) :
    ((a % 16 - m % 16 - 1 + c < 0 ∧ sbcL a m c = a % 16 - m % 16 - 1 + c - 6 ∧ sbcG a m c = a / 16 - m / 16 - 1) ∨ (¬ a % 16 - m % 16 - 1 + c < 0 ∧ sbcL a m c = a % 16 - m % 16 - 1 + c ∧ sbcG a m c = a / 16 - m / 16)) ∧
    ((sbcG a m c < 0 ∧ sbcH a m c = sbcG a m c - 6) ∨ (¬ sbcG a m c < 0 ∧ sbcH a m c = sbcG a m c)) := by
  refine ⟨?_, ?_⟩
  · unfold sbcL sbcG; split <;> simp_all
  · rw [show sbcH a m c = if sbcG a m c < 0 then sbcG a m c - 6 else sbcG a m c from rfl]; split <;> simp_all
theorem subR_byte {a m p : Int} : isByte (subR a m p) = true := by
  simp only [isByte, Bool.and_eq_true, decide_eq_true_eq]; unfold subR; omega
set_option maxHeartbeats 4000000 in
theorem sub_eq {a m p : Int} (ha : isByte a = true) (hm : isByte m = true) (hp : isByte p = true) :
    evCallH Try.prog [sWith, sByte, sNZ] [(14, .int .i64 (1 - p % 2)), (19, .int .i64 (sbcL a m (p % 2) % 16)), (25, .int .i64 (sbcH a m (p % 2) % 16)), (28, .int .i64 (subR a m p))] 100 19 [.int .i64 a, .int .i64 m, .int .i64 p] [] (fun v _ => some v) = some (.tup [.int .i64 (subR a m p), .int .i64 (subQ a m p)]) := by
  have ha' := byteI ha
  have hm' := byteI hm
  have hp' := byteI hp
  have hr := subR_byte (a := a) (m := m) (p := p)
  have hR : subR a m p = sbcH a m (p % 2) % 16 * 16 + sbcL a m (p % 2) % 16 := rfl
  obtain ⟨c1, c2⟩ := sub_cases a m (p % 2)
  rw [sub_ev]
  simp only [and_0b, and_m4, fdiv_pos a (show (0 : Int) ≤ 16 by decide), fdiv_pos m (show (0 : Int) ≤ 16 by decide), byteM hp, byteM hr, nz_byte hp, ceq, cdec, Bool.and_self, Bool.and_true, cond_true]
  unfold subQ
  generalize hc : p % 2 = c at *
  have hc' : 0 ≤ c ∧ c ≤ 1 := by omega
  generalize hL : sbcL a m c = L at *
  generalize hG : sbcG a m c = G at *
  generalize hH : sbcH a m c = H at *
  generalize subR a m p = R at *
  simp (maxSteps := 2000000) (disch := omega) only [wrap_id, or_nib]
  rcases c1 with c1 | c1 <;> rcases c2 with c2 | c2 <;> first | (exfalso; omega) | (simp (disch := omega) only [if_pos, if_neg, decide_eq_true, decide_eq_false, if_true])
def sSub : Summ Try.prog := mkPure [sWith, sByte, sNZ] hN hM 19 100 (fun args => match args with | [.int .i64 a, .int .i64 m, .int .i64 p] => some (isByte a && isByte m && isByte p, .tup [.int .i64 (subR a m p), .int .i64 (subQ a m p)]) | _ => none) (by
  intro args v h
  split at h
  · simp only [Option.some.injEq, Prod.mk.injEq, Bool.and_eq_true] at h; obtain ⟨hc, rfl⟩ := h; exact ⟨rfl, rfl, _, sub_eq hc.1.1 hc.1.2 hc.2⟩
  · cases h)
end Go.Proofs.Ytecbemlfhmepfaa
