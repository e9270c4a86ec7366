import Derived.Test.YtabfnphbbdklgaaBkC
set_option linter.unusedVariables false
set_option linter.unusedSimpArgs false
namespace Go.Proofs.Ytabfnphbbdklgaa
open Go Go.R
/-- which page of a card stands at a page of the bus -/
def pageK (n l p : Int) : Int :=
  if n = 48 then (if p < 64 then p % 32 else 32 + p % 16) else if n = 96 then (if p < 64 then p else 64 + p % 32) else if n = 320 then (if p < 64 then p else 64 * (l % 4) + p) else p % n
def pageV (n l p : Int) : Int := if okN n = true ∧ 0 ≤ p ∧ p < 128 then pageK n l p else -1
def latchV (n l p : Int) : Int := if n = 320 ∧ 8176 ≤ p ∧ p ≤ 8179 then p - 8176 else l
theorem kind0 {n : Int} (h : n = 1 ∨ n = 2 ∨ n = 4 ∨ n = 8 ∨ n = 16 ∨ n = 32 ∨ n = 64 ∨ n = 128) : kindN n = 0 ∧ okN n = true := by
  rcases h with rfl | rfl | rfl | rfl | rfl | rfl | rfl | rfl <;> exact ⟨rfl, rfl⟩
theorem page_all (n l p : Int) : ∃ H, evCallH Try.prog [sClass] H 100 14 [.int .i64 n, .int .i64 l, .int .i64 p] [] (fun v _ => some v) = some (.int .i64 (pageV n l p)) := by
  cases h : okN n with
  | false =>
    refine ⟨_, (pageN_ev n l p).trans ?_⟩
    rw [kindN_not h, h]
    unfold pageV; rw [h, if_neg (by simp)]; rfl
  | true =>
    have hn := okN_cases h
    by_cases hp : 0 ≤ p ∧ p < 128
    · have hv : pageV n l p = pageK n l p := by unfold pageV; rw [if_pos ⟨h, hp.1, hp.2⟩]
      rw [hv]
      have d1 : decide (p < 0) = false := decide_eq_false (by omega)
      have d2 : decide (p ≥ 128) = false := decide_eq_false (by omega)
      have d3 : decide (p ≥ 0) = true := decide_eq_true (by omega)
      rcases (show (n = 1 ∨ n = 2 ∨ n = 4 ∨ n = 8 ∨ n = 16 ∨ n = 32 ∨ n = 64 ∨ n = 128) ∨ n = 48 ∨ n = 96 ∨ n = 320 by omega) with hn | rfl | rfl | rfl
      · refine ⟨_, (page0_ev n l p).trans ?_⟩
        obtain ⟨k1, k2⟩ := kind0 hn
        have e : pageK n l p = p % n := by unfold pageK; rw [if_neg (by omega), if_neg (by omega), if_neg (by omega)]
        have hz : (!(n == 0)) = true := by rw [show (n == 0) = false from beq_eq_false_iff_ne.2 (by omega)]; rfl
        have hm := Int.emod_lt_of_pos p (show 0 < n by omega)
        have hm0 := Int.emod_nonneg p (show n ≠ 0 by omega)
        rw [k1, k2, d1, d2, d3, hz, tmod_pos hp.1, e, wrap_id (by omega) (by omega)]
        simp
      · refine ⟨_, (page1_ev 48 l p).trans ?_⟩
        rw [d1, d2, d3]
        by_cases q : p < 64
        · rw [decide_eq_false (show ¬ p ≥ 64 by omega)]
          rw [show wr Go.IntKind.i64 ((wr Go.IntKind.i64 (48 * 2)).tdiv 3) = 32 from rfl, tmod_pos (m := 32) hp.1, wrap_id (n := 0 + p % 32) (by omega) (by omega)]
          unfold pageK; rw [if_pos rfl, if_pos q, show 0 + p % 32 = p % 32 by omega]; rfl
        · rw [decide_eq_true (show p ≥ 64 by omega)]
          rw [show wr Go.IntKind.i64 ((wr Go.IntKind.i64 (48 * 2)).tdiv 3) = 32 from rfl, show wr Go.IntKind.i64 (48 - 32) = 16 from rfl, tmod_pos (m := 16) hp.1, wrap_id (n := 32 + p % 16) (by omega) (by omega)]
          unfold pageK; rw [if_pos rfl, if_neg q]; rfl
      · refine ⟨_, (page1_ev 96 l p).trans ?_⟩
        rw [d1, d2, d3]
        by_cases q : p < 64
        · rw [decide_eq_false (show ¬ p ≥ 64 by omega)]
          rw [show wr Go.IntKind.i64 ((wr Go.IntKind.i64 (96 * 2)).tdiv 3) = 64 from rfl, tmod_pos (m := 64) hp.1, wrap_id (n := 0 + p % 64) (by omega) (by omega)]
          unfold pageK; rw [if_neg (by omega), if_pos rfl, if_pos q, show 0 + p % 64 = p by omega]; rfl
        · rw [decide_eq_true (show p ≥ 64 by omega)]
          rw [show wr Go.IntKind.i64 ((wr Go.IntKind.i64 (96 * 2)).tdiv 3) = 64 from rfl, show wr Go.IntKind.i64 (96 - 64) = 32 from rfl, tmod_pos (m := 32) hp.1, wrap_id (n := 64 + p % 32) (by omega) (by omega)]
          unfold pageK; rw [if_neg (by omega), if_pos rfl, if_neg q]; rfl
      · refine ⟨_, (page2_ev 320 l p).trans ?_⟩
        rw [d1, d2, d3]
        by_cases q : p < 64
        · rw [decide_eq_false (show ¬ p ≥ 64 by omega), tmod_pos hp.1, wrap_id (n := 0 + p % 64) (by omega) (by omega)]
          unfold pageK; rw [if_neg (by omega), if_neg (by omega), if_pos rfl, if_pos q, show 0 + p % 64 = p by omega]; rfl
        · rw [decide_eq_true (show p ≥ 64 by omega), tmod_pos hp.1, and_m2]
          simp (disch := omega) only [wrap_id]
          unfold pageK; rw [if_neg (by omega), if_neg (by omega), if_pos rfl, if_neg q, show 64 + 64 * (l % 4) + p % 64 = 64 * (l % 4) + p by omega]; rfl
    · have hv : pageV n l p = -1 := by unfold pageV; rw [if_neg (by omega)]
      rw [hv]
      have key : decide (p < 0) = true ∨ (decide (p < 0) = false ∧ decide (p ≥ 128) = true) := by
        by_cases q : p < 0
        · exact .inl (decide_eq_true q)
        · exact .inr ⟨decide_eq_false q, decide_eq_true (by omega)⟩
      rcases (show (n = 1 ∨ n = 2 ∨ n = 4 ∨ n = 8 ∨ n = 16 ∨ n = 32 ∨ n = 64 ∨ n = 128) ∨ n = 48 ∨ n = 96 ∨ n = 320 by omega) with hn | rfl | rfl | rfl
      · refine ⟨_, (page0_ev n l p).trans ?_⟩
        obtain ⟨k1, k2⟩ := kind0 hn
        rw [k1, k2]
        rcases key with k | ⟨k, k'⟩
        · rw [k]; rfl
        · rw [k, k']; rfl
      · refine ⟨_, (page1_ev 48 l p).trans ?_⟩
        rcases key with k | ⟨k, k'⟩
        · rw [k]; rfl
        · rw [k, k']; rfl
      · refine ⟨_, (page1_ev 96 l p).trans ?_⟩
        rcases key with k | ⟨k, k'⟩
        · rw [k]; rfl
        · rw [k, k']; rfl
      · refine ⟨_, (page2_ev 320 l p).trans ?_⟩
        rcases key with k | ⟨k, k'⟩
        · rw [k]; rfl
        · rw [k, k']; rfl
theorem rpage_all (n l p : Int) : ∃ H, evCallH Try.prog [sRClass, sMod4] H 100 15 [.int .i64 n, .int .i64 l, .int .i64 p] [] (fun v _ => some v) = some (.int .i64 (pageV n l p)) := by
  cases h : okN n with
  | false =>
    refine ⟨_, (rpageN_ev n l p).trans ?_⟩
    rw [kindN_not h, h]
    unfold pageV; rw [h, if_neg (by simp)]; rfl
  | true =>
    have hn := okN_cases h
    by_cases hp : 0 ≤ p ∧ p < 128
    · have hv : pageV n l p = pageK n l p := by unfold pageV; rw [if_pos ⟨h, hp.1, hp.2⟩]
      rw [hv]
      have d1 : decide (p < 0) = false := decide_eq_false (by omega)
      have d2 : decide (p > 127) = false := decide_eq_false (by omega)
      rcases (show (n = 1 ∨ n = 2 ∨ n = 4 ∨ n = 8 ∨ n = 16 ∨ n = 32 ∨ n = 64 ∨ n = 128) ∨ n = 48 ∨ n = 96 ∨ n = 320 by omega) with hn | rfl | rfl | rfl
      · refine ⟨_, (rpage0_ev n l p).trans ?_⟩
        obtain ⟨k1, k2⟩ := kind0 hn
        have e : pageK n l p = p % n := by unfold pageK; rw [if_neg (by omega), if_neg (by omega), if_neg (by omega)]
        have hz : (!(n == 0)) = true := by rw [show (n == 0) = false from beq_eq_false_iff_ne.2 (by omega)]; rfl
        rw [k1, k2, d1, d2, hz, tmod_pos hp.1, e]
        rfl
      · refine ⟨_, (rpage1_ev 48 l p).trans ?_⟩
        rw [d1, d2]
        by_cases q : p < 64
        · rw [decide_eq_true q, tmod_pos hp.1]
          unfold pageK; rw [if_pos rfl, if_pos q]; rfl
        · rw [decide_eq_false q, tmod_pos (m := 16) hp.1, wrap_id (n := 32 + p % 16) (by omega) (by omega)]
          unfold pageK; rw [if_pos rfl, if_neg q]; rfl
      · refine ⟨_, (rpage1_ev 96 l p).trans ?_⟩
        rw [d1, d2]
        by_cases q : p < 64
        · rw [decide_eq_true q]
          unfold pageK; rw [if_neg (by omega), if_pos rfl, if_pos q]; rfl
        · rw [decide_eq_false q, tmod_pos (m := 32) hp.1, wrap_id (n := 64 + p % 32) (by omega) (by omega)]
          unfold pageK; rw [if_neg (by omega), if_pos rfl, if_neg q]; rfl
      · refine ⟨_, (rpage2_ev 320 l p).trans ?_⟩
        rw [d1, d2]
        by_cases q : p < 64
        · rw [decide_eq_true q]
          unfold pageK; rw [if_neg (by omega), if_neg (by omega), if_pos rfl, if_pos q]; rfl
        · rw [decide_eq_false q]
          simp (disch := omega) only [wrap_id]
          unfold pageK; rw [if_neg (by omega), if_neg (by omega), if_pos rfl, if_neg q]; rfl
    · have hv : pageV n l p = -1 := by unfold pageV; rw [if_neg (by omega)]
      rw [hv]
      have key : decide (p < 0) = true ∨ (decide (p < 0) = false ∧ decide (p > 127) = true) := by
        by_cases q : p < 0
        · exact .inl (decide_eq_true q)
        · exact .inr ⟨decide_eq_false q, decide_eq_true (by omega)⟩
      rcases (show (n = 1 ∨ n = 2 ∨ n = 4 ∨ n = 8 ∨ n = 16 ∨ n = 32 ∨ n = 64 ∨ n = 128) ∨ n = 48 ∨ n = 96 ∨ n = 320 by omega) with hn | rfl | rfl | rfl
      · refine ⟨_, (rpage0_ev n l p).trans ?_⟩
        obtain ⟨k1, k2⟩ := kind0 hn
        rw [k1, k2]
        rcases key with k | ⟨k, k'⟩
        · rw [k]; rfl
        · rw [k, k']; rfl
      · refine ⟨_, (rpage1_ev 48 l p).trans ?_⟩
        rcases key with k | ⟨k, k'⟩
        · rw [k]; rfl
        · rw [k, k']; rfl
      · refine ⟨_, (rpage1_ev 96 l p).trans ?_⟩
        rcases key with k | ⟨k, k'⟩
        · rw [k]; rfl
        · rw [k, k']; rfl
      · refine ⟨_, (rpage2_ev 320 l p).trans ?_⟩
        rcases key with k | ⟨k, k'⟩
        · rw [k]; rfl
        · rw [k, k']; rfl
theorem latch_tail (n l p : Int) : okN n = true → (kindN n == 2) = (n == 320) := by
  intro h
  rcases okN_cases h with rfl | rfl | rfl | rfl | rfl | rfl | rfl | rfl | rfl | rfl | rfl <;> rfl
theorem latchV_eq (n l p : Int) : cond (okN n) (cond (kindN n == 2) (cond (decide (p ≥ 8176)) (cond (decide (p ≤ 8179)) (some (V.int Go.IntKind.i64 (wr Go.IntKind.i64 (p - 8176)))) (some (V.int Go.IntKind.i64 l))) (some (V.int Go.IntKind.i64 l))) (some (V.int Go.IntKind.i64 l))) (some (V.int Go.IntKind.i64 l)) = some (.int .i64 (latchV n l p)) := by
  unfold latchV
  cases h : okN n with
  | false =>
    have : n ≠ 320 := fun e => by subst e; cases h
    rw [if_neg (by omega)]; rfl
  | true =>
    rw [latch_tail n l p h, cond_true]
    by_cases hn : n = 320
    · subst hn
      by_cases h1 : p ≥ 8176
      · by_cases h2 : p ≤ 8179
        · rw [if_pos ⟨rfl, h1, h2⟩, decide_eq_true h1, decide_eq_true h2, wrap_id (by omega) (by omega)]; rfl
        · rw [if_neg (by omega), decide_eq_true h1, decide_eq_false h2]; rfl
      · rw [if_neg (by omega), decide_eq_false h1]; rfl
    · rw [if_neg (by omega), show (n == 320) = false from beq_eq_false_iff_ne.2 hn]; rfl
theorem latch_eq (n l p : Int) : evCall Try.prog [sClass] 100 16 [.int .i64 n, .int .i64 l, .int .i64 p] [] (fun v _ => some v) = some (.int .i64 (latchV n l p)) := by
  rw [latch_ev, show decide (p < 8180) = decide (p ≤ 8179) from decide_eq_decide.2 (by omega)]
  exact latchV_eq n l p
theorem rlatch_eq (n l p : Int) : evCall Try.prog [sRClass] 100 17 [.int .i64 n, .int .i64 l, .int .i64 p] [] (fun v _ => some v) = some (.int .i64 (latchV n l p)) := by
  rw [rlatch_ev]; exact latchV_eq n l p
def sPage : Summ Try.prog := mkPure [sClass] hN hM 14 100 (fun args => match args with | [.int .i64 n, .int .i64 l, .int .i64 p] => some (true, .int .i64 (pageV n l p)) | _ => none) (by
  intro args v h
  split at h
  · simp only [Option.some.injEq, Prod.mk.injEq, true_and] at h; subst h; exact ⟨rfl, rfl, page_all _ _ _⟩
  · cases h)
def sRPage : Summ Try.prog := mkPure [sRClass, sMod4] hN hM 15 100 (fun args => match args with | [.int .i64 n, .int .i64 l, .int .i64 p] => some (true, .int .i64 (pageV n l p)) | _ => none) (by
  intro args v h
  split at h
  · simp only [Option.some.injEq, Prod.mk.injEq, true_and] at h; subst h; exact ⟨rfl, rfl, rpage_all _ _ _⟩
  · cases h)
def sLatch : Summ Try.prog := mkPure [sClass] hN hM 16 100 (fun args => match args with | [.int .i64 n, .int .i64 l, .int .i64 p] => some (true, .int .i64 (latchV n l p)) | _ => none) (by
  intro args v h
  split at h
  · simp only [Option.some.injEq, Prod.mk.injEq, true_and] at h; subst h; exact ⟨rfl, rfl, _, latch_eq _ _ _⟩
  · cases h)
def sRLatch : Summ Try.prog := mkPure [sRClass] hN hM 17 100 (fun args => match args with | [.int .i64 n, .int .i64 l, .int .i64 p] => some (true, .int .i64 (latchV n l p)) | _ => none) (by
  intro args v h
  split at h
  · simp only [Option.some.injEq, Prod.mk.injEq, true_and] at h; subst h; exact ⟨rfl, rfl, _, rlatch_eq _ _ _⟩
  · cases h)
end Go.Proofs.Ytabfnphbbdklgaa
