import Derived.Test.YtecbemlfhmepfaaAluO
set_option linter.unusedVariables false
set_option linter.unusedSimpArgs false
namespace Go.Proofs.Ytecbemlfhmepfaa
open Go Go.R
theorem aluDoes_ok (op : Int) (_ : IntKind.i64.has op) (b : Nat → Int) (_ : ∀ i, i < 2 → IntKind.i64.has (b i)) (p : Int) (_ : IntKind.i64.has p) :
    evCallH Try.prog [sDoP, sDoR, sNZ, sRNZ] [] 100 3 [.int .i64 op, .aggi .i64 2 b, .int .i64 p] [] asB = some true := by
  refine (lawDoes_ev op p b).trans ?_
  simp only [beq_self_eq_true, cond_true]
/-! ### the flags of a byte -/
theorem f1 (q : Int) : (bitI .and .i64 q 1 == 1) = (q % 2 == 1) := by rw [and_0b]
theorem f2 (q : Int) : (bitI .and .i64 q 2 == 2) = (q / 2 % 2 == 1) := by
  rw [and_1b, Bool.eq_iff_iff]; simp only [beq_iff_eq]; omega
theorem f128 (q : Int) : (bitI .and .i64 q 128 == 128) = (q / 128 % 2 == 1) := by
  rw [and_7b, Bool.eq_iff_iff]; simp only [beq_iff_eq]; omega
theorem nz_arith {p b : Int} (hp : isByte p = true) : nz p b = p - p / 128 % 2 * 128 - p / 2 % 2 * 2 + cond (decide (128 ≤ b)) 128 0 + cond (b == 0) 2 0 := by
  have hp := byteI hp
  unfold nz setF
  cases decide (128 ≤ b) <;> cases (b == 0) <;> simp only [cond_true, cond_false] <;> omega
theorem set1_arith {p : Int} (x : Bool) : setF p 1 x = p - p % 2 + cond x 1 0 := by unfold setF; rw [show p / 1 = p by omega]; omega
theorem test_arith {p m : Int} {x : Bool} (hp : isByte p = true) (hm : isByte m = true) : testV p m x = p % 64 - p / 2 % 2 * 2 + m / 64 * 64 + cond x 2 0 := by
  have h := two_arith hp hm
  have hp := byteI hp
  have hm := byteI hm
  unfold testV
  rw [← h]
  unfold setF
  cases x <;> simp only [cond_true, cond_false] <;> omega
theorem beqI (a b : Int) : (a == b) = decide (a = b) := by rw [Bool.eq_iff_iff]; simp
theorem and192 {s m : Int} (hs : isByte s = true) (hm : isByte m = true) (h : s / 64 = m / 64) : bitI .and .i64 s 192 = bitI .and .i64 m 192 := by
  have a1 : ∀ x, x < 256 → Nat.beq (x &&& 192) (x / 64 * 64) = true := allB_spec (by decide +kernel)
  have hs := byteI hs
  have hm := byteI hm
  have e1 := Nat.eq_of_beq_eq_true (a1 s.toNat (by omega))
  have e2 := Nat.eq_of_beq_eq_true (a1 m.toNat (by omega))
  rw [and_nat (by omega) (by omega) (by omega) (by omega), and_nat (by omega) (by omega) (by omega) (by omega), show Int.toNat 192 = 192 from rfl, e1, e2]
  omega
theorem aluAsks_ok (n : Int) (_ : IntKind.i64.has n) (o : Int) (_ : IntKind.i64.has o) (p : Int) (_ : IntKind.i64.has p) :
    evCallH Try.prog [sDoP] [(12, .int .i64 (n % 256)), (14, .int .i64 (o % 256)), (20, .int .i64 (n % 256)), (21, .int .i64 (setF (nz (p % 256) ((n % 256 - o % 256) % 256)) 1 (decide (n % 256 ≥ o % 256)))), (27, .int .i64 (n % 256)), (28, .int .i64 (testV (p % 256) (o % 256) (andN (n % 256) (o % 256) == 0)))] 100 7 [.int .i64 n, .int .i64 o, .int .i64 p] [] asB = some true := by
  refine (lawAsks_ev n o p _ _ _ _ _ _).trans ?_
  rw [and_m8, and_m8]
  have ha := byteB n
  have hm := byteB o
  have hp := byteB p
  generalize n % 256 = a at *
  generalize o % 256 = m at *
  generalize p % 256 = c at *
  rw [byteM ha, byteM hm]
  rw [show dR 5 a m c = a from rfl, show dQ 5 a m c = setF (nz c ((a - m) % 256)) 1 (decide (a ≥ m)) from rfl, show dR 6 a m c = a from rfl, show dQ 6 a m c = testV c m (andN a m == 0) from rfl]
  rw [f1, f2, f2, andI ha hm]
  have hs : isByte (testV c m (andN a m == 0)) = true := setF_byte (setF_byte (setF_byte hp rfl) rfl) rfl
  have h192 := and192 (s := testV c m (andN a m == 0)) hs hm (by rw [test_arith hp hm]; have := byteI hp; have := byteI hm; cases (andN a m == 0) <;> simp only [cond_true, cond_false] <;> omega)
  rw [h192]
  have hc := byteI hp
  have ha' := byteI ha
  have hm' := byteI hm
  have e1 : (setF (nz c ((a - m) % 256)) 1 (decide (a ≥ m)) % 2 == 1) = decide (a ≥ m) := by
    rw [set1_arith]
    generalize nz c ((a - m) % 256) = k
    by_cases h : a ≥ m
    · rw [decide_eq_true h, cond_true, beq_iff_eq]; omega
    · rw [decide_eq_false h, cond_false, beq_eq_false_iff_ne]; omega
  have e2 : (setF (nz c ((a - m) % 256)) 1 (decide (a ≥ m)) / 2 % 2 == 1) = (a == m) := by
    rw [set1_arith, nz_arith hp]
    rw [show ((a - m) % 256 == 0) = (a == m) by rw [Bool.eq_iff_iff]; simp only [beq_iff_eq]; omega]
    by_cases h : a = m
    · subst h
      simp only [beq_self_eq_true, cond_true]
      rw [beq_iff_eq]
      cases decide (a ≥ a) <;> cases decide (128 ≤ (a - a) % 256) <;> simp only [cond_true, cond_false] <;> omega
    · rw [beq_eq_false_iff_ne.2 h, cond_false, beq_eq_false_iff_ne]
      cases decide (a ≥ m) <;> cases decide (128 ≤ (a - m) % 256) <;> simp only [cond_true, cond_false] <;> omega
  have e3 : (testV c m (andN a m == 0) / 2 % 2 == 1) = (andN a m == 0) := by
    rw [test_arith hp hm]
    cases (andN a m == 0) <;> simp only [cond_true, cond_false]
    · rw [beq_eq_false_iff_ne]; omega
    · rw [beq_iff_eq]; omega
  rw [e1, e2, e3]
  simp only [beq_self_eq_true, cond_true]
end Go.Proofs.Ytecbemlfhmepfaa
