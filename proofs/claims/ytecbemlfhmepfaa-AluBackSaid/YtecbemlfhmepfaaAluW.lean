import Derived.Test.YtecbemlfhmepfaaAluV
import Derived.Test.YtecbemlfhmepfaaAluQ
set_option linter.unusedVariables false
set_option linter.unusedSimpArgs false
namespace Go.Proofs.Ytecbemlfhmepfaa
open Go Go.R
/-- digits of ten -/
def bcdN (n : Int) : Int := n / 10 * 16 + n % 10
theorem set64_mod (p : Int) (x : Bool) : setF p 64 x % 2 = p % 2 := by
  unfold setF; cases x <;> simp only [cond_true, cond_false] <;> omega
theorem sumQ_mod (a m p : Int) : sumQ a m p % 2 = cond (decide (a + m + p % 2 > 255)) 1 0 := by
  unfold sumQ
  rw [set64_mod, set1_arith]
  generalize nz p (sumR a m p) = k
  cases decide (a + m + p % 2 > 255) <;> simp only [cond_true, cond_false] <;> omega
theorem addQ_mod (a m p : Int) : addQ a m p % 2 = cond (decide (bcdH a m (p % 2) > 15)) 1 0 := by
  unfold addQ
  rw [set1_arith]
  generalize nz p (addR a m p) = k
  cases decide (bcdH a m (p % 2) > 15) <;> simp only [cond_true, cond_false] <;> omega
theorem subQ_mod (a m p : Int) : subQ a m p % 2 = cond (decide (sbcG a m (p % 2) ≥ 0)) 1 0 := by
  unfold subQ
  rw [set1_arith]
  generalize nz p (subR a m p) = k
  cases decide (sbcG a m (p % 2) ≥ 0) <;> simp only [cond_true, cond_false] <;> omega
theorem bcd_lo {n : Int} (h0 : 0 ≤ n) (h1 : n < 100) : bcdN n % 16 = n % 10 ∧ bcdN n / 16 = n / 10 ∧ isByte (bcdN n) = true := by
  have e : bcdN n = n / 10 * 16 + n % 10 := rfl
  refine ⟨by omega, by omega, ?_⟩
  simp only [isByte, Bool.and_eq_true, decide_eq_true_eq]; omega
theorem dec_add {x y c : Int} (x0 : 0 ≤ x) (x1 : x < 100) (y0 : 0 ≤ y) (y1 : y < 100) (c0 : 0 ≤ c) (c1 : c ≤ 1) (p : Int) (hp : p % 2 = c) : addR (bcdN x) (bcdN y) p = bcdN ((x + y + c) % 100) ∧ (bcdH (bcdN x) (bcdN y) c > 15 ↔ x + y + c > 99) := by
  obtain ⟨g1, g2, _⟩ := bcd_lo x0 x1
  obtain ⟨g3, g4, _⟩ := bcd_lo y0 y1
  obtain ⟨k1, k2, k3⟩ := add_cases (bcdN x) (bcdN y) c
  unfold addR
  rw [hp]
  generalize hL : bcdL (bcdN x) (bcdN y) c = L at *
  generalize hG : bcdG (bcdN x) (bcdN y) c = G at *
  generalize hH : bcdH (bcdN x) (bcdN y) c = J at *
  generalize bcdN x = a at *
  generalize bcdN y = m at *
  have e : bcdN ((x + y + c) % 100) = (x + y + c) % 100 / 10 * 16 + (x + y + c) % 100 % 10 := rfl
  rw [e]
  obtain ⟨p1, p2⟩ : ∃ p1 p2, x = 10 * p1 + p2 ∧ 0 ≤ p2 ∧ p2 ≤ 9 := ⟨x / 10, x % 10, by omega, by omega, by omega⟩
  obtain ⟨q1, q2⟩ : ∃ q1 q2, y = 10 * q1 + q2 ∧ 0 ≤ q2 ∧ q2 ≤ 9 := ⟨y / 10, y % 10, by omega, by omega, by omega⟩
  rcases k1 with k1 | k1 <;> rcases k2 with k2 | k2 <;> rcases k3 with k3 | k3 <;> first | (exfalso; omega) | (constructor <;> omega)
theorem dec_sub {x y c : Int} (x0 : 0 ≤ x) (x1 : x < 100) (y0 : 0 ≤ y) (y1 : y < 100) (c0 : 0 ≤ c) (c1 : c ≤ 1) (p : Int) (hp : p % 2 = c) : subR (bcdN x) (bcdN y) p = bcdN ((x - y - 1 + c + 100) % 100) ∧ (sbcG (bcdN x) (bcdN y) c ≥ 0 ↔ x - y - 1 + c ≥ 0) := by
  obtain ⟨g1, g2, _⟩ := bcd_lo x0 x1
  obtain ⟨g3, g4, _⟩ := bcd_lo y0 y1
  obtain ⟨k1, k2⟩ := sub_cases (bcdN x) (bcdN y) c
  unfold subR
  rw [hp]
  generalize hL : sbcL (bcdN x) (bcdN y) c = L at *
  generalize hG : sbcG (bcdN x) (bcdN y) c = G at *
  generalize hH : sbcH (bcdN x) (bcdN y) c = J at *
  generalize bcdN x = a at *
  generalize bcdN y = m at *
  have e : bcdN ((x - y - 1 + c + 100) % 100) = (x - y - 1 + c + 100) % 100 / 10 * 16 + (x - y - 1 + c + 100) % 100 % 10 := rfl
  rw [e]
  rcases k1 with k1 | k1 <;> rcases k2 with k2 | k2 <;> first | (exfalso; omega) | (constructor <;> omega)
theorem bcd_ev {x : Int} (x0 : 0 ≤ x) (x1 : x < 100) : wr Go.IntKind.i64 (wr Go.IntKind.i64 (wr Go.IntKind.i64 (x.tdiv 10) * 16) + x.tmod 10) = bcdN x := by
  rw [tdiv_pos x0, tmod_pos x0]
  simp (disch := omega) only [wrap_id]
  rfl
set_option maxHeartbeats 4000000 in
theorem aluBack1_ok (a0 m0 : Int) :
    evCallH Try.prog [sDoP] [(19, .int .i64 (a0 % 256)), (21, .int .i64 (m0 % 256)), (28, .int .i64 ((a0 % 256 + m0 % 256 + 1) % 256)), (29, .int .i64 (sumQ (a0 % 256) (m0 % 256) 1)), (55, .int .i64 (a0 % 256)), (61, .int .i64 (a0 % 256 % 100)), (63, .int .i64 (m0 % 256 % 100)), (67, .int .i64 (bcdN (a0 % 256 % 100))), (70, .int .i64 (bcdN (m0 % 256 % 100))), (74, .int .i64 (bcdN ((a0 % 256 % 100 + m0 % 256 % 100 + 1) % 100))), (75, .int .i64 (addQ (bcdN (a0 % 256 % 100)) (bcdN (m0 % 256 % 100)) (8 + 1))), (101, .int .i64 (bcdN (a0 % 256 % 100))), (104, .int .i64 (bcdN (m0 % 256 % 100))), (108, .int .i64 (bcdN ((a0 % 256 % 100 - m0 % 256 % 100 - 1 + 1 + 100) % 100))), (109, .int .i64 (subQ (bcdN (a0 % 256 % 100)) (bcdN (m0 % 256 % 100)) (8 + 1))), (115, .int .i64 (a0 % 256 % 100 - m0 % 256 % 100 - 1 + 1))] 100 5 [.int .i64 a0, .int .i64 m0, .bool true] [] asB = some true := by
  refine (lawBack1_ev a0 m0 _ _ _ _ _ _ _ _ _ _ _ _ _ _).trans ?_
  rw [and_m8 a0, and_m8 m0]
  have ha := byteB a0
  have hm := byteB m0
  generalize a0 % 256 = a at *
  generalize m0 % 256 = m at *
  have ha' := byteI ha
  have hm' := byteI hm
  have hr := byteB (a + m + 1)
  rw [byteM ha, byteM hm, byteM hr]
  rw [show dR 3 a m 1 = (a + m + 1) % 256 from rfl, show dQ 3 a m 1 = sumQ a m 1 from rfl, show dR 4 ((a + m + 1) % 256) m 0 = ((a + m + 1) % 256 + (255 - m) + 0) % 256 from rfl]
  rw [show ((a + m + 1) % 256 + (255 - m) + 0) % 256 = a by omega]
  rw [tmod_pos (m := 100) ha'.1, tmod_pos (m := 100) hm'.1]
  have hx : 0 ≤ a % 100 ∧ a % 100 < 100 := by omega
  have hy : 0 ≤ m % 100 ∧ m % 100 < 100 := by omega
  generalize a % 100 = x at *
  generalize m % 100 = y at *
  rw [bcd_ev hx.1 hx.2, bcd_ev hy.1 hy.2, byteM (bcd_lo hx.1 hx.2).2.2, byteM (bcd_lo hy.1 hy.2).2.2]
  obtain ⟨d1, d2⟩ := dec_add hx.1 hx.2 hy.1 hy.2 (show (0 : Int) ≤ 1 by decide) (show (1 : Int) ≤ 1 by decide) (8 + 1) (by decide)
  obtain ⟨s1, s2⟩ := dec_sub hx.1 hx.2 hy.1 hy.2 (show (0 : Int) ≤ 1 by decide) (show (1 : Int) ≤ 1 by decide) (8 + 1) (by decide)
  rw [show dR 3 (bcdN x) (bcdN y) 9 = addR (bcdN x) (bcdN y) (8 + 1) from rfl, show dQ 3 (bcdN x) (bcdN y) 9 = addQ (bcdN x) (bcdN y) (8 + 1) from rfl, show dR 4 (bcdN x) (bcdN y) 9 = subR (bcdN x) (bcdN y) (8 + 1) from rfl, show dQ 4 (bcdN x) (bcdN y) 9 = subQ (bcdN x) (bcdN y) (8 + 1) from rfl]
  rw [d1, s1]
  rw [wrap_id (n := a + m) (by omega) (by omega), wrap_id (n := a + m + 1) (by omega) (by omega), and_m8 (a + m + 1), wrap_id (n := x + y) (by omega) (by omega), wrap_id (n := x + y + 1) (by omega) (by omega), wrap_id (n := x - y) (by omega) (by omega), wrap_id (n := x - y - 1) (by omega) (by omega), wrap_id (n := x - y - 1 + 1) (by omega) (by omega)]
  rw [wrap_id (n := x - y - 1 + 1 + 100) (by omega) (by omega), tmod_pos (m := 100) (show 0 ≤ x + y + 1 by omega), tmod_pos (m := 100) (show 0 ≤ x - y - 1 + 1 + 100 by omega), bcd_ev (x := (x + y + 1) % 100) (by omega) (by omega), bcd_ev (x := (x - y - 1 + 1 + 100) % 100) (by omega) (by omega)]
  rw [and_0b, and_0b, and_0b, fdiv_pos _ (show (0 : Int) ≤ 256 by decide), sumQ_mod, addQ_mod, subQ_mod]
  have t1 : (cond (decide (a + m + 1 % 2 > 255)) 1 0 : Int) = (a + m + 1) / 256 := by
    by_cases h : a + m + 1 % 2 > 255
    · rw [decide_eq_true h]; simp only [cond_true]; omega
    · rw [decide_eq_false h]; simp only [cond_false]; omega
  have t2 : ((cond (decide (bcdH (bcdN x) (bcdN y) ((8 + 1) % 2) > 15)) 1 0 : Int) == 1) = decide (x + y + 1 > 99) := by
    rw [show ((8 + 1 : Int) % 2) = 1 from rfl, decide_eq_decide.2 d2]
    cases decide (x + y + 1 > 99) <;> rfl
  have t3 : ((cond (decide (sbcG (bcdN x) (bcdN y) ((8 + 1) % 2) ≥ 0)) 1 0 : Int) == 1) = decide (x - y - 1 + 1 ≥ 0) := by
    rw [show ((8 + 1 : Int) % 2) = 1 from rfl, decide_eq_decide.2 s2]
    cases decide (x - y - 1 + 1 ≥ 0) <;> rfl
  rw [t1, t2, t3]
  simp only [beq_self_eq_true, bne_self_eq_false, cond_true, cond_false, Bool.not_true]
set_option maxHeartbeats 4000000 in
theorem aluBack0_ok (a0 m0 : Int) :
    evCallH Try.prog [sDoP] [(19, .int .i64 (a0 % 256)), (21, .int .i64 (m0 % 256)), (28, .int .i64 ((a0 % 256 + m0 % 256 + 0) % 256)), (29, .int .i64 (sumQ (a0 % 256) (m0 % 256) 0)), (55, .int .i64 (a0 % 256)), (61, .int .i64 (a0 % 256 % 100)), (63, .int .i64 (m0 % 256 % 100)), (67, .int .i64 (bcdN (a0 % 256 % 100))), (70, .int .i64 (bcdN (m0 % 256 % 100))), (74, .int .i64 (bcdN ((a0 % 256 % 100 + m0 % 256 % 100 + 0) % 100))), (75, .int .i64 (addQ (bcdN (a0 % 256 % 100)) (bcdN (m0 % 256 % 100)) (8 + 0))), (101, .int .i64 (bcdN (a0 % 256 % 100))), (104, .int .i64 (bcdN (m0 % 256 % 100))), (108, .int .i64 (bcdN ((a0 % 256 % 100 - m0 % 256 % 100 - 1 + 0 + 100) % 100))), (109, .int .i64 (subQ (bcdN (a0 % 256 % 100)) (bcdN (m0 % 256 % 100)) (8 + 0))), (115, .int .i64 (a0 % 256 % 100 - m0 % 256 % 100 - 1 + 0))] 100 5 [.int .i64 a0, .int .i64 m0, .bool false] [] asB = some true := by
  refine (lawBack0_ev a0 m0 _ _ _ _ _ _ _ _ _ _ _ _ _ _).trans ?_
  rw [and_m8 a0, and_m8 m0]
  have ha := byteB a0
  have hm := byteB m0
  generalize a0 % 256 = a at *
  generalize m0 % 256 = m at *
  have ha' := byteI ha
  have hm' := byteI hm
  have hr := byteB (a + m + 0)
  rw [byteM ha, byteM hm, byteM hr]
  rw [show dR 3 a m 0 = (a + m + 0) % 256 from rfl, show dQ 3 a m 0 = sumQ a m 0 from rfl, show dR 4 ((a + m + 0) % 256) m 1 = ((a + m + 0) % 256 + (255 - m) + 1) % 256 from rfl]
  rw [show ((a + m + 0) % 256 + (255 - m) + 1) % 256 = a by omega]
  rw [tmod_pos (m := 100) ha'.1, tmod_pos (m := 100) hm'.1]
  have hx : 0 ≤ a % 100 ∧ a % 100 < 100 := by omega
  have hy : 0 ≤ m % 100 ∧ m % 100 < 100 := by omega
  generalize a % 100 = x at *
  generalize m % 100 = y at *
  rw [bcd_ev hx.1 hx.2, bcd_ev hy.1 hy.2, byteM (bcd_lo hx.1 hx.2).2.2, byteM (bcd_lo hy.1 hy.2).2.2]
  obtain ⟨d1, d2⟩ := dec_add hx.1 hx.2 hy.1 hy.2 (show (0 : Int) ≤ 0 by decide) (show (0 : Int) ≤ 1 by decide) (8 + 0) (by decide)
  obtain ⟨s1, s2⟩ := dec_sub hx.1 hx.2 hy.1 hy.2 (show (0 : Int) ≤ 0 by decide) (show (0 : Int) ≤ 1 by decide) (8 + 0) (by decide)
  rw [show dR 3 (bcdN x) (bcdN y) 8 = addR (bcdN x) (bcdN y) (8 + 0) from rfl, show dQ 3 (bcdN x) (bcdN y) 8 = addQ (bcdN x) (bcdN y) (8 + 0) from rfl, show dR 4 (bcdN x) (bcdN y) 8 = subR (bcdN x) (bcdN y) (8 + 0) from rfl, show dQ 4 (bcdN x) (bcdN y) 8 = subQ (bcdN x) (bcdN y) (8 + 0) from rfl]
  rw [d1, s1]
  rw [wrap_id (n := a + m) (by omega) (by omega), wrap_id (n := a + m + 0) (by omega) (by omega), and_m8 (a + m + 0), wrap_id (n := x + y) (by omega) (by omega), wrap_id (n := x + y + 0) (by omega) (by omega), wrap_id (n := x - y) (by omega) (by omega), wrap_id (n := x - y - 1) (by omega) (by omega), wrap_id (n := x - y - 1 + 0) (by omega) (by omega)]
  rw [wrap_id (n := x - y - 1 + 0 + 100) (by omega) (by omega), tmod_pos (m := 100) (show 0 ≤ x + y + 0 by omega), tmod_pos (m := 100) (show 0 ≤ x - y - 1 + 0 + 100 by omega), bcd_ev (x := (x + y + 0) % 100) (by omega) (by omega), bcd_ev (x := (x - y - 1 + 0 + 100) % 100) (by omega) (by omega)]
  rw [and_0b, and_0b, and_0b, fdiv_pos _ (show (0 : Int) ≤ 256 by decide), sumQ_mod, addQ_mod, subQ_mod]
  have t1 : (cond (decide (a + m + 0 % 2 > 255)) 1 0 : Int) = (a + m + 0) / 256 := by
    by_cases h : a + m + 0 % 2 > 255
    · rw [decide_eq_true h]; simp only [cond_true]; omega
    · rw [decide_eq_false h]; simp only [cond_false]; omega
  have t2 : ((cond (decide (bcdH (bcdN x) (bcdN y) ((8 + 0) % 2) > 15)) 1 0 : Int) == 1) = decide (x + y + 0 > 99) := by
    rw [show ((8 + 0 : Int) % 2) = 0 from rfl, decide_eq_decide.2 d2]
    cases decide (x + y + 0 > 99) <;> rfl
  have t3 : ((cond (decide (sbcG (bcdN x) (bcdN y) ((8 + 0) % 2) ≥ 0)) 1 0 : Int) == 1) = decide (x - y - 1 + 0 ≥ 0) := by
    rw [show ((8 + 0 : Int) % 2) = 0 from rfl, decide_eq_decide.2 s2]
    cases decide (x - y - 1 + 0 ≥ 0) <;> rfl
  rw [t1, t2, t3]
  simp only [beq_self_eq_true, bne_self_eq_false, cond_true, cond_false, Bool.not_true]
theorem aluBack_ok (a0 : Int) (_ : IntKind.i64.has a0) (m0 : Int) (_ : IntKind.i64.has m0) (c : Bool) :
    evCallH Try.prog [sDoP] [(19, .int .i64 (a0 % 256)), (21, .int .i64 (m0 % 256)), (28, .int .i64 ((a0 % 256 + m0 % 256 + (cond c 1 0)) % 256)), (29, .int .i64 (sumQ (a0 % 256) (m0 % 256) (cond c 1 0))), (55, .int .i64 (a0 % 256)), (61, .int .i64 (a0 % 256 % 100)), (63, .int .i64 (m0 % 256 % 100)), (67, .int .i64 (bcdN (a0 % 256 % 100))), (70, .int .i64 (bcdN (m0 % 256 % 100))), (74, .int .i64 (bcdN ((a0 % 256 % 100 + m0 % 256 % 100 + (cond c 1 0)) % 100))), (75, .int .i64 (addQ (bcdN (a0 % 256 % 100)) (bcdN (m0 % 256 % 100)) (8 + (cond c 1 0)))), (101, .int .i64 (bcdN (a0 % 256 % 100))), (104, .int .i64 (bcdN (m0 % 256 % 100))), (108, .int .i64 (bcdN ((a0 % 256 % 100 - m0 % 256 % 100 - 1 + (cond c 1 0) + 100) % 100))), (109, .int .i64 (subQ (bcdN (a0 % 256 % 100)) (bcdN (m0 % 256 % 100)) (8 + (cond c 1 0)))), (115, .int .i64 (a0 % 256 % 100 - m0 % 256 % 100 - 1 + (cond c 1 0)))] 100 5 [.int .i64 a0, .int .i64 m0, .bool c] [] asB = some true := by
  cases c
  · exact aluBack0_ok a0 m0
  · exact aluBack1_ok a0 m0
end Go.Proofs.Ytecbemlfhmepfaa
