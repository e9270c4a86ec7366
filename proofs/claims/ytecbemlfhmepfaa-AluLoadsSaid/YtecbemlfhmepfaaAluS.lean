import Derived.Test.YtecbemlfhmepfaaAluQ
set_option linter.unusedVariables false
set_option linter.unusedSimpArgs false
namespace Go.Proofs.Ytecbemlfhmepfaa
open Go Go.R
theorem aluLoads_ok (n : Int) (_ : IntKind.i64.has n) (p : Int) (_ : IntKind.i64.has p) :
    evCallH Try.prog [sDoP, sNZ] [(12, .int .i64 (n % 256)), (13, .int .i64 (nz (p % 256) (n % 256))), (16, .int .i64 (nz (p % 256) (n % 256))), (19, .int .i64 (n % 256))] 100 9 [.int .i64 n, .int .i64 p] [] asB = some true := by
  refine (lawLoads_ev n p _ _ _ _).trans ?_
  rw [low8 p 125 (by omega) (by omega), and_m8]
  rw [show (bitI BinOp.and Go.IntKind.i64 n 128 == 128) = (n % 256 / 128 % 2 == 1) by rw [f128]; rw [Bool.eq_iff_iff]; simp only [beq_iff_eq]; omega]
  have hm := byteB n
  have hp := byteB p
  generalize n % 256 = m at *
  generalize p % 256 = c at *
  rw [show dR 15 0 m c = m from rfl, show dQ 15 0 m c = nz c m from rfl]
  have hq : isByte (nz c m) = true := nz_byte hp
  have hc := byteI hp
  have hm' := byteI hm
  have ar := nz_arith (b := m) hp
  rw [f2, f128, and130 hq, and125 hq hp (by rw [ar]; cases decide (128 ≤ m) <;> cases (m == 0) <;> simp only [cond_true, cond_false] <;> omega) (by rw [ar]; cases decide (128 ≤ m) <;> cases (m == 0) <;> simp only [cond_true, cond_false] <;> omega)]
  have e1 : (nz c m / 2 % 2 == 1) = (m == 0) := by
    rw [ar]
    cases h : (m == 0) <;> simp only [cond_true, cond_false]
    · rw [beq_eq_false_iff_ne]; cases decide (128 ≤ m) <;> simp only [cond_true, cond_false] <;> omega
    · rw [beq_iff_eq]; cases decide (128 ≤ m) <;> simp only [cond_true, cond_false] <;> omega
  have e2 : (nz c m / 128 % 2 == 1) = (m / 128 % 2 == 1) := by
    rw [ar]
    by_cases h : 128 ≤ m
    · rw [decide_eq_true h, Bool.eq_iff_iff]; simp only [beq_iff_eq, cond_true]
      cases (m == 0) <;> simp only [cond_true, cond_false] <;> omega
    · rw [decide_eq_false h, Bool.eq_iff_iff]; simp only [beq_iff_eq, cond_false]
      cases (m == 0) <;> simp only [cond_true, cond_false] <;> omega
  have e3 : (nz c m / 128 * 128 + nz c m / 2 % 2 * 2 != 130) = true := by
    rw [bne_iff_ne, ar]
    by_cases h : 128 ≤ m
    · rw [decide_eq_true h, beq_eq_false_iff_ne.2 (by omega : m ≠ 0)]; simp only [cond_true, cond_false]; omega
    · rw [decide_eq_false h]; cases (m == 0) <;> simp only [cond_true, cond_false] <;> omega
  rw [e1, e2, e3]
  simp only [beq_self_eq_true, cond_true]
end Go.Proofs.Ytecbemlfhmepfaa
