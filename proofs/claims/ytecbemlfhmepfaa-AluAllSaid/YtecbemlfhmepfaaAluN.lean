import Derived.Test.YtecbemlfhmepfaaAluM
set_option linter.unusedVariables false
set_option linter.unusedSimpArgs false
namespace Go.Proofs.Ytecbemlfhmepfaa
open Go Go.R
def doV (op n o q : Int) : V := .tup [.int .i64 (dR op (n % 256) (o % 256) (q % 256)), .int .i64 (dQ op (n % 256) (o % 256) (q % 256))]
theorem dR_other {op a m p : Int} (h : op < 0 ∨ 15 < op) : dR op a m p = a ∧ dQ op a m p = p := by
  have h1 : isEach op = false := by simp only [isEach, Bool.or_eq_false_iff, beq_eq_false_iff_ne]; omega
  have h2 : isShift op = false := by simp only [isShift, Bool.or_eq_false_iff, beq_eq_false_iff_ne]; omega
  unfold dR dQ
  rw [h1, h2]
  simp (disch := omega) only [if_neg, Bool.false_eq_true, if_false, and_self]
set_option maxHeartbeats 4000000 in
theorem doP_eq (op n o q : Int) : evCallH Try.prog [sByte, sWith, sNZ, sTest, sSum, sAdd, sSub, sShift] [(12, .int .i64 (n % 256)), (14, .int .i64 (o % 256)), (16, .int .i64 (q % 256))] 100 11 [.int .i64 op, .int .i64 n, .int .i64 o, .int .i64 q] [] (fun v _ => some v) = some (doV op n o q) := by
  have ha := byteB n
  have hm := byteB o
  have hp := byteB q
  unfold doV
  by_cases hop : op < 0 ∨ 15 < op
  · rw [(dR_other hop).1, (dR_other hop).2]
    have e0 : (op == 0) = false := by rw [beq_eq_false_iff_ne]; omega
    have e1 : (op == 1) = false := by rw [beq_eq_false_iff_ne]; omega
    have e2 : (op == 2) = false := by rw [beq_eq_false_iff_ne]; omega
    have e3 : (op == 3) = false := by rw [beq_eq_false_iff_ne]; omega
    have e4 : (op == 4) = false := by rw [beq_eq_false_iff_ne]; omega
    have e5 : (op == 5) = false := by rw [beq_eq_false_iff_ne]; omega
    have e6 : (op == 6) = false := by rw [beq_eq_false_iff_ne]; omega
    have e7 : (op == 7) = false := by rw [beq_eq_false_iff_ne]; omega
    have e8 : (op == 8) = false := by rw [beq_eq_false_iff_ne]; omega
    have e9 : (op == 9) = false := by rw [beq_eq_false_iff_ne]; omega
    have e10 : (op == 10) = false := by rw [beq_eq_false_iff_ne]; omega
    have e11 : (op == 11) = false := by rw [beq_eq_false_iff_ne]; omega
    have e12 : (op == 12) = false := by rw [beq_eq_false_iff_ne]; omega
    have e13 : (op == 13) = false := by rw [beq_eq_false_iff_ne]; omega
    have e14 : (op == 14) = false := by rw [beq_eq_false_iff_ne]; omega
    have e15 : (op == 15) = false := by rw [beq_eq_false_iff_ne]; omega
    rw [doP_ev]
    simp only [e0, e1, e2, e3, e4, e5, e6, e7, e8, e9, e10, e11, e12, e13, e14, e15, beq_self_eq_true, cond_true, cond_false]
  · have ho : op = 0 ∨ op = 1 ∨ op = 2 ∨ op = 3 ∨ op = 4 ∨ op = 5 ∨ op = 6 ∨ op = 7 ∨ op = 8 ∨ op = 9 ∨ op = 10 ∨ op = 11 ∨ op = 12 ∨ op = 13 ∨ op = 14 ∨ op = 15 := by omega
    clear hop
    rcases ho with rfl | rfl | rfl | rfl | rfl | rfl | rfl | rfl | rfl | rfl | rfl | rfl | rfl | rfl | rfl | rfl
    · rw [doP0_ev]
      generalize n % 256 = a at *
      generalize o % 256 = m at *
      generalize q % 256 = p at *
      have ha' := byteI ha
      have hm' := byteI hm
      have hp' := byteI hp
      have hb := each_byte (op := 0) ha hm
      rw [orI ha hm, show orN a m = eachV 0 a m from rfl]
      simp only [beq_self_eq_true, cond_true, ha, hm, hp, byteM ha, byteM hm, byteM hp, Bool.and_self, Bool.and_true]
      simp only [byteM hb]
      rfl
    · rw [doP1_ev]
      generalize n % 256 = a at *
      generalize o % 256 = m at *
      generalize q % 256 = p at *
      have ha' := byteI ha
      have hm' := byteI hm
      have hp' := byteI hp
      have hb := each_byte (op := 1) ha hm
      rw [andI ha hm, show andN a m = eachV 1 a m from rfl]
      simp only [beq_self_eq_true, cond_true, ha, hm, hp, byteM ha, byteM hm, byteM hp, Bool.and_self, Bool.and_true]
      simp only [byteM hb]
      rfl
    · rw [doP2_ev]
      generalize n % 256 = a at *
      generalize o % 256 = m at *
      generalize q % 256 = p at *
      have ha' := byteI ha
      have hm' := byteI hm
      have hp' := byteI hp
      have hb := each_byte (op := 2) ha hm
      rw [xorI ha hm, show xorN a m = eachV 2 a m from rfl]
      simp only [beq_self_eq_true, cond_true, ha, hm, hp, byteM ha, byteM hm, byteM hp, Bool.and_self, Bool.and_true]
      simp only [byteM hb]
      rfl
    · rw [doP3_ev]
      generalize n % 256 = a at *
      generalize o % 256 = m at *
      generalize q % 256 = p at *
      have ha' := byteI ha
      have hm' := byteI hm
      have hp' := byteI hp
      rw [isD_bt]
      simp only [beq_self_eq_true, cond_true, ha, hm, hp, byteM ha, byteM hm, byteM hp, Bool.and_self, Bool.and_true]
      show _ = some (V.tup [V.int .i64 (adcR a m p), V.int .i64 (adcQ a m p)])
      unfold adcR adcQ
      cases isD p <;> rfl
    · rw [doP4_ev]
      generalize n % 256 = a at *
      generalize o % 256 = m at *
      generalize q % 256 = p at *
      have ha' := byteI ha
      have hm' := byteI hm
      have hp' := byteI hp
      rw [isD_bt, xor255 hm]
      simp only [beq_self_eq_true, cond_true, ha, hm, hp, byteM ha, byteM hm, byteM hp, Bool.and_self, Bool.and_true, byte255 hm]
      show _ = some (V.tup [V.int .i64 (sbcR a m p), V.int .i64 (sbcQ a m p)])
      unfold sbcR sbcQ
      cases isD p <;> rfl
    · rw [doP5_ev]
      generalize n % 256 = a at *
      generalize o % 256 = m at *
      generalize q % 256 = p at *
      have ha' := byteI ha
      have hm' := byteI hm
      have hp' := byteI hp
      rw [wrap_id (n := a - m) (by omega) (by omega)]
      simp only [beq_self_eq_true, cond_true, ha, hm, hp, byteM ha, byteM hm, byteM hp, Bool.and_self, Bool.and_true, nz_byte hp]
      rfl
    · rw [doP6_ev]
      generalize n % 256 = a at *
      generalize o % 256 = m at *
      generalize q % 256 = p at *
      have ha' := byteI ha
      have hm' := byteI hm
      have hp' := byteI hp
      rw [andI ha hm]
      simp only [beq_self_eq_true, cond_true, ha, hm, hp, byteM ha, byteM hm, byteM hp, Bool.and_self, Bool.and_true]
      rfl
    · rw [doP7_ev]
      generalize n % 256 = a at *
      generalize o % 256 = m at *
      generalize q % 256 = p at *
      have ha' := byteI ha
      have hm' := byteI hm
      have hp' := byteI hp
      rw [orI hm ha, orC]
      simp only [beq_self_eq_true, cond_true, ha, hm, hp, byteM ha, byteM hm, byteM hp, Bool.and_self, Bool.and_true]
      rfl
    · rw [doP8_ev]
      generalize n % 256 = a at *
      generalize o % 256 = m at *
      generalize q % 256 = p at *
      have ha' := byteI ha
      have hm' := byteI hm
      have hp' := byteI hp
      rw [notN_eq ha hm]
      simp only [beq_self_eq_true, cond_true, ha, hm, hp, byteM ha, byteM hm, byteM hp, Bool.and_self, Bool.and_true]
      rfl
    · rw [doP9_ev]
      generalize n % 256 = a at *
      generalize o % 256 = m at *
      generalize q % 256 = p at *
      have ha' := byteI ha
      have hm' := byteI hm
      have hp' := byteI hp
      simp only [beq_self_eq_true, cond_true, ha, hm, hp, byteM ha, byteM hm, byteM hp, Bool.and_self, Bool.and_true]
      rfl
    · rw [doP10_ev]
      generalize n % 256 = a at *
      generalize o % 256 = m at *
      generalize q % 256 = p at *
      have ha' := byteI ha
      have hm' := byteI hm
      have hp' := byteI hp
      simp only [beq_self_eq_true, cond_true, ha, hm, hp, byteM ha, byteM hm, byteM hp, Bool.and_self, Bool.and_true]
      rfl
    · rw [doP11_ev]
      generalize n % 256 = a at *
      generalize o % 256 = m at *
      generalize q % 256 = p at *
      have ha' := byteI ha
      have hm' := byteI hm
      have hp' := byteI hp
      simp only [beq_self_eq_true, cond_true, ha, hm, hp, byteM ha, byteM hm, byteM hp, Bool.and_self, Bool.and_true]
      rfl
    · rw [doP12_ev]
      generalize n % 256 = a at *
      generalize o % 256 = m at *
      generalize q % 256 = p at *
      have ha' := byteI ha
      have hm' := byteI hm
      have hp' := byteI hp
      simp only [beq_self_eq_true, cond_true, ha, hm, hp, byteM ha, byteM hm, byteM hp, Bool.and_self, Bool.and_true]
      rfl
    · rw [doP13_ev]
      generalize n % 256 = a at *
      generalize o % 256 = m at *
      generalize q % 256 = p at *
      have ha' := byteI ha
      have hm' := byteI hm
      have hp' := byteI hp
      rw [wrap_id (n := m + 1) (by omega) (by omega)]
      simp only [beq_self_eq_true, cond_true, ha, hm, hp, byteM ha, byteM hm, byteM hp, Bool.and_self, Bool.and_true, byteM (byteB (m + 1))]
      rfl
    · rw [doP14_ev]
      generalize n % 256 = a at *
      generalize o % 256 = m at *
      generalize q % 256 = p at *
      have ha' := byteI ha
      have hm' := byteI hm
      have hp' := byteI hp
      rw [wrap_id (n := m - 1) (by omega) (by omega), show (m - 1) % 256 = (m + 255) % 256 by omega]
      simp only [beq_self_eq_true, cond_true, ha, hm, hp, byteM ha, byteM hm, byteM hp, Bool.and_self, Bool.and_true, byteM (byteB (m + 255))]
      rfl
    · rw [doP15_ev]
      generalize n % 256 = a at *
      generalize o % 256 = m at *
      generalize q % 256 = p at *
      have ha' := byteI ha
      have hm' := byteI hm
      have hp' := byteI hp
      simp only [beq_self_eq_true, cond_true, ha, hm, hp, byteM ha, byteM hm, byteM hp, Bool.and_self, Bool.and_true]
      rfl
set_option maxHeartbeats 4000000 in
theorem doR_eq (op n o q : Int) : evCallH Try.prog [sRByte, sSet, sRNZ, sTwo, sEach, sAdc, sSbc, sMod] [(12, .int .i64 (n % 256)), (14, .int .i64 (o % 256)), (16, .int .i64 (q % 256))] 100 12 [.int .i64 op, .int .i64 n, .int .i64 o, .int .i64 q] [] (fun v _ => some v) = some (doV op n o q) := by
  have ha := byteB n
  have hm := byteB o
  have hp := byteB q
  unfold doV
  by_cases hop : op < 0 ∨ 15 < op
  · rw [(dR_other hop).1, (dR_other hop).2]
    have e0 : (op == 0) = false := by rw [beq_eq_false_iff_ne]; omega
    have e1 : (op == 1) = false := by rw [beq_eq_false_iff_ne]; omega
    have e2 : (op == 2) = false := by rw [beq_eq_false_iff_ne]; omega
    have e3 : (op == 3) = false := by rw [beq_eq_false_iff_ne]; omega
    have e4 : (op == 4) = false := by rw [beq_eq_false_iff_ne]; omega
    have e5 : (op == 5) = false := by rw [beq_eq_false_iff_ne]; omega
    have e6 : (op == 6) = false := by rw [beq_eq_false_iff_ne]; omega
    have e7 : (op == 7) = false := by rw [beq_eq_false_iff_ne]; omega
    have e8 : (op == 8) = false := by rw [beq_eq_false_iff_ne]; omega
    have e9 : (op == 9) = false := by rw [beq_eq_false_iff_ne]; omega
    have e10 : (op == 10) = false := by rw [beq_eq_false_iff_ne]; omega
    have e11 : (op == 11) = false := by rw [beq_eq_false_iff_ne]; omega
    have e12 : (op == 12) = false := by rw [beq_eq_false_iff_ne]; omega
    have e13 : (op == 13) = false := by rw [beq_eq_false_iff_ne]; omega
    have e14 : (op == 14) = false := by rw [beq_eq_false_iff_ne]; omega
    have e15 : (op == 15) = false := by rw [beq_eq_false_iff_ne]; omega
    rw [doR_ev]
    simp only [e0, e1, e2, e3, e4, e5, e6, e7, e8, e9, e10, e11, e12, e13, e14, e15, beq_self_eq_true, cond_true, cond_false]
  · have ho : op = 0 ∨ op = 1 ∨ op = 2 ∨ op = 3 ∨ op = 4 ∨ op = 5 ∨ op = 6 ∨ op = 7 ∨ op = 8 ∨ op = 9 ∨ op = 10 ∨ op = 11 ∨ op = 12 ∨ op = 13 ∨ op = 14 ∨ op = 15 := by omega
    clear hop
    rcases ho with rfl | rfl | rfl | rfl | rfl | rfl | rfl | rfl | rfl | rfl | rfl | rfl | rfl | rfl | rfl | rfl
    · rw [doR0_ev]
      generalize n % 256 = a at *
      generalize o % 256 = m at *
      generalize q % 256 = p at *
      have ha' := byteI ha
      have hm' := byteI hm
      have hp' := byteI hp
      have hb := each_byte (op := 0) ha hm
      simp only [beq_self_eq_true, cond_true, ha, hm, hp, byteM ha, byteM hm, byteM hp, Bool.and_self, Bool.and_true, byteM hb]
      rfl
    · rw [doR1_ev]
      generalize n % 256 = a at *
      generalize o % 256 = m at *
      generalize q % 256 = p at *
      have ha' := byteI ha
      have hm' := byteI hm
      have hp' := byteI hp
      have hb := each_byte (op := 1) ha hm
      simp only [beq_self_eq_true, cond_true, ha, hm, hp, byteM ha, byteM hm, byteM hp, Bool.and_self, Bool.and_true, byteM hb]
      rfl
    · rw [doR2_ev]
      generalize n % 256 = a at *
      generalize o % 256 = m at *
      generalize q % 256 = p at *
      have ha' := byteI ha
      have hm' := byteI hm
      have hp' := byteI hp
      have hb := each_byte (op := 2) ha hm
      simp only [beq_self_eq_true, cond_true, ha, hm, hp, byteM ha, byteM hm, byteM hp, Bool.and_self, Bool.and_true, byteM hb]
      rfl
    · rw [doR3_ev]
      generalize n % 256 = a at *
      generalize o % 256 = m at *
      generalize q % 256 = p at *
      have ha' := byteI ha
      have hm' := byteI hm
      have hp' := byteI hp
      simp only [beq_self_eq_true, cond_true, ha, hm, hp, byteM ha, byteM hm, byteM hp, Bool.and_self, Bool.and_true]
      rfl
    · rw [doR4_ev]
      generalize n % 256 = a at *
      generalize o % 256 = m at *
      generalize q % 256 = p at *
      have ha' := byteI ha
      have hm' := byteI hm
      have hp' := byteI hp
      simp only [beq_self_eq_true, cond_true, ha, hm, hp, byteM ha, byteM hm, byteM hp, Bool.and_self, Bool.and_true]
      rfl
    · rw [doR5_ev]
      generalize n % 256 = a at *
      generalize o % 256 = m at *
      generalize q % 256 = p at *
      have ha' := byteI ha
      have hm' := byteI hm
      have hp' := byteI hp
      rw [wrap_id (n := a - m) (by omega) (by omega)]
      simp only [beq_self_eq_true, cond_true, ha, hm, hp, byteM ha, byteM hm, byteM hp, Bool.and_self, Bool.and_true, nz_byte hp]
      rfl
    · rw [doR6_ev]
      generalize n % 256 = a at *
      generalize o % 256 = m at *
      generalize q % 256 = p at *
      have ha' := byteI ha
      have hm' := byteI hm
      have hp' := byteI hp
      have hb : isByte (setF (setF p 128 (decide (128 ≤ m))) 64 (m / 64 % 2 == 1)) = true := setF_byte (setF_byte hp rfl) rfl
      simp only [beq_self_eq_true, cond_true, ha, hm, hp, byteM ha, byteM hm, byteM hp, Bool.and_self, Bool.and_true, hb]
      rfl
    · rw [doR7_ev]
      generalize n % 256 = a at *
      generalize o % 256 = m at *
      generalize q % 256 = p at *
      have ha' := byteI ha
      have hm' := byteI hm
      have hp' := byteI hp
      have hb : isByte (setF (setF p 128 (decide (128 ≤ m))) 64 (m / 64 % 2 == 1)) = true := setF_byte (setF_byte hp rfl) rfl
      simp only [beq_self_eq_true, cond_true, ha, hm, hp, byteM ha, byteM hm, byteM hp, Bool.and_self, Bool.and_true, hb]
      rfl
    · rw [doR8_ev]
      generalize n % 256 = a at *
      generalize o % 256 = m at *
      generalize q % 256 = p at *
      have ha' := byteI ha
      have hm' := byteI hm
      have hp' := byteI hp
      have hb : isByte (setF (setF p 128 (decide (128 ≤ m))) 64 (m / 64 % 2 == 1)) = true := setF_byte (setF_byte hp rfl) rfl
      simp only [beq_self_eq_true, cond_true, ha, hm, hp, byteM ha, byteM hm, byteM hp, Bool.and_self, Bool.and_true, hb]
      rfl
    · rw [doR9_ev]
      generalize n % 256 = a at *
      generalize o % 256 = m at *
      generalize q % 256 = p at *
      have ha' := byteI ha
      have hm' := byteI hm
      have hp' := byteI hp
      have e1 : (wr .i64 (m * 2)).tmod 256 = m * 2 % 256 := by rw [wrap_id (by omega) (by omega), tmod_pos (by omega)]
      rw [e1]
      simp only [beq_self_eq_true, cond_true, ha, hm, hp, byteM ha, byteM hm, byteM hp, Bool.and_self, Bool.and_true, nz_byte hp, byteM (byteB (m * 2))]
      rfl
    · rw [doR10_ev]
      generalize n % 256 = a at *
      generalize o % 256 = m at *
      generalize q % 256 = p at *
      have ha' := byteI ha
      have hm' := byteI hm
      have hp' := byteI hp
      have e1 : (wr .i64 (m * 2)).tmod 256 = m * 2 % 256 := by rw [wrap_id (by omega) (by omega), tmod_pos (by omega)]
      have e2 : wr .i64 (m * 2 % 256 + p.tmod 2) = m * 2 % 256 + p % 2 := by rw [tmod_pos hp'.1, wrap_id (by omega) (by omega)]
      have hb : isByte (m * 2 % 256 + p % 2) = true := by simp only [isByte, Bool.and_eq_true, decide_eq_true_eq]; omega
      rw [e1, e2]
      simp only [beq_self_eq_true, cond_true, ha, hm, hp, byteM ha, byteM hm, byteM hp, Bool.and_self, Bool.and_true, nz_byte hp, byteM hb]
      rfl
    · rw [doR11_ev]
      generalize n % 256 = a at *
      generalize o % 256 = m at *
      generalize q % 256 = p at *
      have ha' := byteI ha
      have hm' := byteI hm
      have hp' := byteI hp
      have e1 : wr .i64 (m.tdiv 2) = m / 2 := by rw [tdiv_pos hm'.1, wrap_id (by omega) (by omega)]
      have e3 : m.tmod 2 = m % 2 := tmod_pos hm'.1 2
      have hb : isByte (m / 2) = true := by simp only [isByte, Bool.and_eq_true, decide_eq_true_eq]; omega
      rw [e1, e3]
      simp only [beq_self_eq_true, cond_true, ha, hm, hp, byteM ha, byteM hm, byteM hp, Bool.and_self, Bool.and_true, nz_byte hp, byteM hb]
      rfl
    · rw [doR12_ev]
      generalize n % 256 = a at *
      generalize o % 256 = m at *
      generalize q % 256 = p at *
      have ha' := byteI ha
      have hm' := byteI hm
      have hp' := byteI hp
      have e1 : wr .i64 (m.tdiv 2) = m / 2 := by rw [tdiv_pos hm'.1, wrap_id (by omega) (by omega)]
      have e3 : m.tmod 2 = m % 2 := tmod_pos hm'.1 2
      have e2 : wr .i64 (m / 2 + wr .i64 (p.tmod 2 * 128)) = m / 2 + p % 2 * 128 := by rw [tmod_pos hp'.1, wrap_id (n := p % 2 * 128) (by omega) (by omega), wrap_id (by omega) (by omega)]
      have hb : isByte (m / 2 + p % 2 * 128) = true := by simp only [isByte, Bool.and_eq_true, decide_eq_true_eq]; omega
      rw [e1, e2, e3]
      simp only [beq_self_eq_true, cond_true, ha, hm, hp, byteM ha, byteM hm, byteM hp, Bool.and_self, Bool.and_true, nz_byte hp, byteM hb]
      rfl
    · rw [doR13_ev]
      generalize n % 256 = a at *
      generalize o % 256 = m at *
      generalize q % 256 = p at *
      have ha' := byteI ha
      have hm' := byteI hm
      have hp' := byteI hp
      have e1 : (wr .i64 (m + 1)).tmod 256 = (m + 1) % 256 := by rw [wrap_id (by omega) (by omega), tmod_pos (by omega)]
      rw [e1]
      simp only [beq_self_eq_true, cond_true, ha, hm, hp, byteM ha, byteM hm, byteM hp, Bool.and_self, Bool.and_true, byteM (byteB (m + 1))]
      rfl
    · rw [doR14_ev]
      generalize n % 256 = a at *
      generalize o % 256 = m at *
      generalize q % 256 = p at *
      have ha' := byteI ha
      have hm' := byteI hm
      have hp' := byteI hp
      have e1 : (wr .i64 (m + 255)).tmod 256 = (m + 255) % 256 := by rw [wrap_id (by omega) (by omega), tmod_pos (by omega)]
      rw [e1]
      simp only [beq_self_eq_true, cond_true, ha, hm, hp, byteM ha, byteM hm, byteM hp, Bool.and_self, Bool.and_true, byteM (byteB (m + 255))]
      rfl
    · rw [doR15_ev]
      generalize n % 256 = a at *
      generalize o % 256 = m at *
      generalize q % 256 = p at *
      have ha' := byteI ha
      have hm' := byteI hm
      have hp' := byteI hp
      simp only [beq_self_eq_true, cond_true, ha, hm, hp, byteM ha, byteM hm, byteM hp, Bool.and_self, Bool.and_true]
      rfl
def sDoP : Summ Try.prog := mkPure [sByte, sWith, sNZ, sTest, sSum, sAdd, sSub, sShift] hN hM 11 100 (fun args => match args with | [.int .i64 op, .int .i64 n, .int .i64 o, .int .i64 q] => some (true, doV op n o q) | _ => none) (by
  intro args v h
  split at h
  · simp only [Option.some.injEq, Prod.mk.injEq, true_and] at h; subst h; exact ⟨rfl, rfl, _, doP_eq _ _ _ _⟩
  · cases h)
def sDoR : Summ Try.prog := mkPure [sRByte, sSet, sRNZ, sTwo, sEach, sAdc, sSbc, sMod] hN hM 12 100 (fun args => match args with | [.int .i64 op, .int .i64 n, .int .i64 o, .int .i64 q] => some (true, doV op n o q) | _ => none) (by
  intro args v h
  split at h
  · simp only [Option.some.injEq, Prod.mk.injEq, true_and] at h; subst h; exact ⟨rfl, rfl, _, doR_eq _ _ _ _⟩
  · cases h)
end Go.Proofs.Ytecbemlfhmepfaa
