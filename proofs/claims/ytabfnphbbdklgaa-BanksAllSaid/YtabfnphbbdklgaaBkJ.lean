import Derived.Test.YtabfnphbbdklgaaBkI
set_option linter.unusedVariables false
set_option linter.unusedSimpArgs false
namespace Go.Proofs.Ytabfnphbbdklgaa
open Go Go.R
/-- the cards' numbers of pages, in the law's order -/
def pagesL : List V := [V.int Go.IntKind.i64 1, V.int Go.IntKind.i64 2, V.int Go.IntKind.i64 4, V.int Go.IntKind.i64 8, V.int Go.IntKind.i64 16, V.int Go.IntKind.i64 32, V.int Go.IntKind.i64 64, V.int Go.IntKind.i64 128, V.int Go.IntKind.i64 48, V.int Go.IntKind.i64 96, V.int Go.IntKind.i64 320]
def pagesK (i : Nat) : Int := toI (pagesL.getD i V.nil)
theorem eleven (n : Int) : (wr Go.IntKind.i64 (n.tmod 11 + 11)).tmod 11 = n % 11 := by
  have h1 : n.tmod 11 = if 0 ≤ n ∨ (11 : Int) ∣ n then n % 11 else n % 11 - 11 := by rw [Int.tmod_eq_emod]; split <;> omega
  have h2 := Int.emod_nonneg n (show (11 : Int) ≠ 0 by decide)
  have h3 := Int.emod_lt_of_pos n (show (0 : Int) < 11 by decide)
  rw [wrap_id (by split at h1 <;> omega) (by split at h1 <;> omega), Int.tmod_eq_emod_of_nonneg (by split at h1 <;> omega)]
  split at h1 <;> omega
theorem pagesK_ok : ∀ i, i < 11 → okN (pagesK i) = true ∧ 1 ≤ pagesK i := by
  intro i h
  have : i = 0 ∨ i = 1 ∨ i = 2 ∨ i = 3 ∨ i = 4 ∨ i = 5 ∨ i = 6 ∨ i = 7 ∨ i = 8 ∨ i = 9 ∨ i = 10 := by omega
  rcases this with rfl | rfl | rfl | rfl | rfl | rfl | rfl | rfl | rfl | rfl | rfl <;> exact ⟨rfl, by decide⟩
theorem page_in {n l p : Int} (h : okN n = true) (h0 : 0 ≤ p) (h1 : p < 128) : 0 ≤ pageV n l p ∧ pageV n l p < n := by
  rw [show pageV n l p = pageK n l p by unfold pageV; rw [if_pos ⟨h, h0, h1⟩]]
  unfold pageK
  have hn := okN_cases h
  split
  · split <;> omega
  · split
    · split <;> omega
    · split
      · split <;> omega
      · have := Int.emod_nonneg p (show n ≠ 0 by omega)
        have := Int.emod_lt_of_pos p (show 0 < n by omega)
        omega
theorem all_block : sub [1, 1, 0, 1] (bodyOf Try.prog 5) = .block 0 (.loop (sub [1, 1, 0, 1, 0, 0] (bodyOf Try.prog 5))) := by kernel_rfl
theorem banksAll_calls (n : Int) (_ : IntKind.i64.has n) (l : Int) (_ : IntKind.i64.has l) (B : Base) (ρ : Rho) (w : World) (hr : Rel B ρ [] w) : Calls Try.prog 5 (reals ρ [.int .i64 n, .int .i64 l]).toArray w fun e w' => ∃ x, e = .returned x ∧ After B ρ [] asB true x w' := by
  have h0 : 0 ≤ n % 11 ∧ n % 11 < 11 := by omega
  obtain ⟨i, hi⟩ := Int.eq_ofNat_of_zero_le h0.1
  have hi' : i < 11 := by omega
  have hk := pagesK_ok i hi'
  have h1 := allTo_ev n l (pagesK i)
  rw [eleven, hi] at h1
  have e0 : scaled (i : Int) 1 = i := by rw [scaled_eq]; simp
  have e1 : inR (i : Int) 11 = true := by simp [inR]; omega
  have e2 : (0 + scaled (i : Int) 1 + 1).ble 11 = true := by rw [e0]; simp; omega
  have e3 : (toI (pagesL.getD (0 + scaled (i : Int) 1) V.nil) == pagesK i) = true := by rw [e0, Nat.zero_add]; exact beq_self_eq_true _
  rw [e1, e2, cond_true, cond_true] at h1
  unfold pagesL at e3
  rw [e3, cond_true] at h1
  refine loop_call (kk := asB) hN hM (by kernel_rfl) [1, 1, 0, 1] h1 (fun B ρ0 a w hs => ?_) (fun rest => (allFrom_ev l (pagesK i) (128 : Nat) (Blk.cells 3 pagesL) rest).trans ?_) hr rfl
  · rw [show ntOf Try.prog 5 [.int .i64 n, .int .i64 l] = 42 by kernel_rfl] at hs ⊢
    rw [all_block]
    refine loop_unit (Γ := [sPage, sRPage]) (n := 100) (H := []) (live := [1, 5, 6]) hN hM 128 (fun j => [.int .i64 l, .int .i64 (pagesK i), .int .i64 (j : Nat)]) (fun _ => [Blk.cells 3 pagesL]) (fun j hj rest => ?_) (fun rest => ?_) hs
    · refine (allBody_ev l (pagesK i) j _ rest).trans ?_
      have hp := page_in (l := l) (p := (j : Int)) hk.1 (by omega) (by omega)
      rw [decide_eq_true (show (j : Int) < 128 by omega), cond_true, bne_self_eq_false, cond_false, decide_eq_false (show ¬ pageV (pagesK i) l j < 0 by omega), cond_false, decide_eq_false (show ¬ pageV (pagesK i) l j ≥ pagesK i by omega), cond_false, wrap_id (n := (j : Int) + 1) (by omega) (by omega)]
      rfl
    · exact (allBody_ev l (pagesK i) (128 : Nat) _ rest).trans rfl
  · have : pageV (pagesK i) l 128 = -1 := by unfold pageV; rw [if_neg (by omega)]
    rw [this]; rfl
end Go.Proofs.Ytabfnphbbdklgaa
