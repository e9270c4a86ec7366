import Derived.Test.YtkhlghlmmnemeaaPsP
set_option linter.unusedVariables false
set_option linter.unusedSimpArgs false
namespace Go.Proofs.Ytkhlghlmmnemeaa
open Go Go.R
theorem codes_in : ∀ p ∈ codesP, p.1 < 244 := by decide +kernel
theorem ok_congr {f g : Nat → Int} (h : ∀ j, j < 244 → f j = g j) : okP f = okP g := by
  unfold okP
  rw [Bool.eq_iff_iff, List.all_eq_true, List.all_eq_true]
  have e : ∀ p ∈ codesP, chk f p = chk g p := fun p hp => by unfold chk; rw [h p.1 (codes_in p hp)]
  exact ⟨fun k p hp => by rw [← e p hp]; exact k p hp, fun k p hp => by rw [e p hp]; exact k p hp⟩
theorem ok_cut (f : Nat → Int) : okP (cut f) = okP f := ok_congr fun j hj => cut_in f hj
theorem upd1_congr {f g : Nat → Int} (h : ∀ j, j < 244 → f j = g j) (i : Nat) {x y : Int} (hx : x = y) : ∀ j, j < 244 → upd1 f i x j = upd1 g i y j := by
  intro j hj
  by_cases e : j = i
  · subst e; rw [upd1_at, upd1_at, hx]
  · rw [upd1_self _ _ _ e, upd1_self _ _ _ e, h j hj]
theorem wrC_congr {f g : Nat → Int} (h : ∀ j, j < 244 → f j = g j) {o : Nat} (ho : o + 40 ≤ 244) (at_ B : Int) (nz : Bool) : ∀ j, j < 244 → wrC f o at_ B nz j = wrC g o at_ B nz j := by
  have h0 := h o (by omega)
  have h1 := h (o + 1) (by omega)
  have h36 := h (o + 36) (by omega)
  unfold wrC
  rw [h0, h1, h36]
  split
  · exact upd1_congr h o rfl
  · split
    · exact upd1_congr h o rfl
    · split
      · split
        · exact upd1_congr (upd1_congr h _ rfl) _ rfl
        · exact upd1_congr h _ rfl
      · split
        · exact upd1_congr h _ rfl
        · split
          · split
            · exact upd1_congr h _ rfl
            · exact upd1_congr (upd1_congr h _ rfl) _ rfl
          · split
            · split
              · exact upd1_congr h _ rfl
              · exact h
            · exact h
theorem wrG_congr {f g : Nat → Int} (h : ∀ j, j < 244 → f j = g j) (h0 : 0 ≤ f 0) (at_ B : Int) : ∀ j, j < 244 → wrG f at_ B j = wrG g at_ B j := by
  unfold wrG
  rw [← h 0 (by decide)]
  split
  · exact upd1_congr h _ rfl
  · split
    · exact upd1_congr h _ rfl
    · split
      · exact upd1_congr h _ rfl
      · split
        · exact upd1_congr h _ rfl
        · split
          · exact wrC_congr h (by omega) _ _ _
          · exact h
theorem wr_cut (f : Nat → Int) (at_ b : Int) : wrF (cut f) at_ b = wrF f at_ b := by
  unfold wrF
  rw [ok_cut]
  by_cases h : okP f = true
  · rw [if_pos h, if_pos h]
    have h0 := ok_in h (j := 0) (m := 7) (by decide) rfl
    exact cut_congr (wrG_congr (fun j hj => cut_in f hj) (by rw [cut_in f (by decide)]; exact h0.1) _ _)
  · rw [if_neg h, if_neg h, cut_cut]
theorem cut_wr (f : Nat → Int) (at_ b : Int) : cut (wrF f at_ b) = wrF f at_ b := by unfold wrF; rw [cut_cut]
theorem shift0 (f : Nat → Int) : (fun j => f (0 + j)) = f := funext fun j => by rw [Nat.zero_add]
theorem psgWrites_ok (f : Nat → Int) (_ : ∀ i, i < 244 → IntKind.i64.has (f i)) (a : Int) (_ : IntKind.i64.has a) (b : Int) (_ : IntKind.i64.has b) :
    evCallH Try.prog [sWrite, sRWrite, sOwn, sValid, sRValid, sFresh] [] 300 6 [.aggi .i64 244 f, .int .i64 a, .int .i64 b] [] asB = some true := by
  refine (lawWrites_ev f a b).trans ?_
  rw [shift0]
  rw [show (fun j => wrF f a b j) = wrF f a b from rfl, show (fun j => cut f j) = cut f from rfl, cut_wr, wr_cut, ok_cut]
  simp only [beq_self_eq_true, Bool.and_true, Bool.true_and, cond_true]
end Go.Proofs.Ytkhlghlmmnemeaa
