import Derived.Test.YtabfnphbbdklgaaBkA
set_option linter.unusedVariables false
set_option linter.unusedSimpArgs false
namespace Go.Proofs.Ytabfnphbbdklgaa
open Go Go.R
/-- cards' numbers of pages, and their kinds -/
def okN (n : Int) : Bool := n == 1 || n == 2 || n == 4 || n == 8 || n == 16 || n == 32 || n == 64 || n == 128 || n == 48 || n == 96 || n == 320
def kindN (n : Int) : Int := cond (n == 48 || n == 96) 1 (cond (n == 320) 2 0)
theorem okN_cases {n : Int} (h : okN n = true) : n = 1 ∨ n = 2 ∨ n = 4 ∨ n = 8 ∨ n = 16 ∨ n = 32 ∨ n = 64 ∨ n = 128 ∨ n = 48 ∨ n = 96 ∨ n = 320 := by
  simp only [okN, Bool.or_eq_true, beq_iff_eq] at h; omega
theorem okN_not {n : Int} (h : okN n = false) : (n == 1) = false ∧ (n == 2) = false ∧ (n == 4) = false ∧ (n == 8) = false ∧ (n == 16) = false ∧ (n == 32) = false ∧ (n == 64) = false ∧ (n == 128) = false ∧ (n == 48) = false ∧ (n == 96) = false ∧ (n == 320) = false := by
  simp only [okN, Bool.or_eq_false_iff] at h
  obtain ⟨⟨⟨⟨⟨⟨⟨⟨⟨⟨h1, h2⟩, h3⟩, h4⟩, h5⟩, h6⟩, h7⟩, h8⟩, h9⟩, h10⟩, h11⟩ := h
  exact ⟨h1, h2, h3, h4, h5, h6, h7, h8, h9, h10, h11⟩
theorem beq_sw (a b : Int) : (a == b) = (b == a) := by rw [Bool.eq_iff_iff, beq_iff_eq, beq_iff_eq]; exact eq_comm
theorem kindN_not {n : Int} (h : okN n = false) : kindN n = 0 := by
  obtain ⟨_, _, _, _, _, _, _, _, h9, h10, h11⟩ := okN_not h
  unfold kindN; rw [h9, h10, h11]; rfl
theorem class_eq (n : Int) : evCall Try.prog [] 100 10 [.int .i64 n] [] (fun v _ => some v) = some (.tup [.int .i64 (kindN n), .bool (okN n)]) := by
  rw [class_ev]
  cases h : okN n with
  | true => rcases okN_cases h with rfl | rfl | rfl | rfl | rfl | rfl | rfl | rfl | rfl | rfl | rfl <;> rfl
  | false =>
    obtain ⟨h1, h2, h3, h4, h5, h6, h7, h8, h9, h10, h11⟩ := okN_not h
    rw [kindN_not h, beq_sw 1, beq_sw 2, beq_sw 4, beq_sw 8, beq_sw 16, beq_sw 32, beq_sw 64, beq_sw 128, beq_sw 48, beq_sw 96, beq_sw 320, h1, h2, h3, h4, h5, h6, h7, h8, h9, h10, h11]
    rfl
theorem refclass_eq (n : Int) : evCall Try.prog [] 100 20 [.int .i64 n] [] (fun v _ => some v) = some (.tup [.int .i64 (kindN n), .bool (okN n)]) := by
  rw [refclass_ev]
  cases h : okN n with
  | true => rcases okN_cases h with rfl | rfl | rfl | rfl | rfl | rfl | rfl | rfl | rfl | rfl | rfl <;> rfl
  | false =>
    obtain ⟨h1, h2, h3, h4, h5, h6, h7, h8, h9, h10, h11⟩ := okN_not h
    rw [kindN_not h]
    simp only [h1, h2, h3, h4, h5, h6, h7, h8, h9, h10, h11, cond_false]
def sClass : Summ Try.prog := mkPure [] hN hM 10 100 (fun args => match args with | [.int .i64 n] => some (true, .tup [.int .i64 (kindN n), .bool (okN n)]) | _ => none) (by
  intro args v h
  split at h
  · simp only [Option.some.injEq, Prod.mk.injEq, true_and] at h; subst h; exact ⟨rfl, rfl, [], class_eq _⟩
  · cases h)
def sRClass : Summ Try.prog := mkPure [] hN hM 20 100 (fun args => match args with | [.int .i64 n] => some (true, .tup [.int .i64 (kindN n), .bool (okN n)]) | _ => none) (by
  intro args v h
  split at h
  · simp only [Option.some.injEq, Prod.mk.injEq, true_and] at h; subst h; exact ⟨rfl, rfl, [], refclass_eq _⟩
  · cases h)
theorem mod4 (n : Int) : evCall Try.prog [] 100 21 [.int .i64 n, .int .i64 4] [] (fun v _ => some v) = some (.int .i64 (n % 4)) := by
  rw [mod_ev]
  have ht : n.tmod 4 = if 0 ≤ n ∨ (4 : Int) ∣ n then n % 4 else n % 4 - 4 := by rw [Int.tmod_eq_emod]; split <;> omega
  rw [show (!((4 : Int) == 0)) = true from rfl, cond_true]
  by_cases h : 0 ≤ n ∨ (4 : Int) ∣ n
  · rw [if_pos h] at ht
    rw [decide_eq_false (by omega), cond_false, ht]
  · rw [if_neg h] at ht
    rw [decide_eq_true (by omega), cond_true, ht, wrap_id (by omega) (by omega)]
    congr 3; omega
def sMod4 : Summ Try.prog := mkPure [] hN hM 21 100 (fun args => match args with | [.int .i64 n, .int .i64 m] => some (m == 4, .int .i64 (n % 4)) | _ => none) (by
  intro args v h
  split at h
  · simp only [Option.some.injEq, Prod.mk.injEq, beq_iff_eq] at h; obtain ⟨rfl, rfl⟩ := h; exact ⟨rfl, rfl, [], mod4 _⟩
  · cases h)
theorem cardNobody_ok (p : Int) (_ : IntKind.i64.has p) (q : Int) (_ : IntKind.i64.has q) : evCallH Try.prog [] [] 100 4 [.int .i64 p, .int .i64 q] [] asB = some true := by
  refine (nobody_ev p q).trans ?_
  by_cases h : p < 0
  · simp only [decide_eq_true h, cond_true]
  · simp only [decide_eq_false h, decide_eq_true (show p ≥ 0 by omega), cond_true, cond_false]
end Go.Proofs.Ytabfnphbbdklgaa
