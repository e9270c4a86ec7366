/-
  The law CardHeader, whatever the input: its row and its tied card.
-/
import Derived.Test.YtabfnphbbdklgaaDoorCards
import Derived.Test.YtabfnphbbdklgaaDoorTie
import Derived.Test.YtabfnphbbdklgaaDoorDu
import Derived.SevenTiedAt
set_option linter.unusedVariables false
set_option linter.unusedSimpArgs false
namespace Go.Proofs.YtabfnphbbdklgaaDoor
open Go Go.R Go.RowKit Go.ChangeShapes Go.WideShapes Go.ChangeAt
theorem walkCardHeader (W : World) (hL : laidMetH Tryd.prog [("errors.errorType", Rows.laid_errors_errorType)] W) (base : Nat) (args : Array Value) {H : Type} (enc : TypeId × Value → H) (ds : List (DataW H)) (ps : List MemPlace) (hval : ∀ (j : Nat) t v, Tryd.f4.params[j]? = some t → args[j]? = some v → Value.okWide Tryd.prog W .any base t v)
    (hA : DataW.TrodAll enc Tryd.prog W 0 (fun _ => true) true Tryd.f4.params.toList args.toList ds ps) : Calls Tryd.prog 4 args W fun e W' => e = .returned (.bool true) ∧ Below W.heap.size W W' := by
  have hg := handle_of_laid hL
  rw [Tryd.params4] at hA hval
  obtain ⟨v0, vs0, d0, ds0, p0, q0, hargs, rfl, rfl, t0, r0⟩ := trodAll_cons hA
  obtain ⟨v1, vs1, d1, ds1, p1, q1, rfl, rfl, rfl, t1, r1⟩ := trodAll_cons r0
  obtain ⟨v2, vs2, d2, ds2, p2, q2, rfl, rfl, rfl, t2, r2⟩ := trodAll_cons r1
  obtain ⟨rfl, rfl, rfl⟩ := trodAll_nil r2
  obtain rfl : args = #[v0, v1, v2] := by cases args; simp_all
  obtain ⟨a0, rfl, w0⟩ := okWide_i (P := Tryd.prog) Tryd.underlying3 (hval 0 3 v0 rfl rfl)
  obtain ⟨a2, rfl, w2⟩ := okWide_i (P := Tryd.prog) Tryd.underlying3 (hval 2 3 v2 rfl rfl)
  rcases okWide_bytes (P := Tryd.prog) Tryd.underlying22 Tryd.underlying5 (by kernel_rfl) (hval 1 22 v1 rfl rfl) t1 with rfl | ⟨b, off, len, cap, f, rfl, hl, hm, hb, hr⟩
  · obtain ⟨Γ, H, h0⟩ := cardHeader_nil a0 w0 a2 w2
    have h := law_true hN hM h0 (args := [.int .i64 a0, .nilsl, .int .i64 a2]) (rel_glob hg) rfl
    exact h
  · obtain ⟨Γ, H, h0⟩ := cardHeader_sl a0 w0 a2 w2 off len cap f hl
    have h := law_true hN hM h0 (args := [.int .i64 a0, .sl 1 off len cap, .int .i64 a2]) (rel_glob_ro hg hr) rfl
    exact h
set_option maxRecDepth 100000 in
theorem cardHeader_lifted (os : Os) (started : os.Started) (H : Type) (enc : TypeId × Value → H) :
    ReturnsInHanded {} Tryd.checked os 4 .any (fun w args => (Rows.cardHeaderSpec.pre enc Tryd.prog Tryd.f4 [] false w args ∧ laidMetH Tryd.prog [("errors.errorType", Rows.laid_errors_errorType)] w) ∧ sizedMet enc Tryd.prog Tryd.f4 (OpenSpec.ofChange Rows.cardHeaderSpec) false w args)
      (Rows.cardHeaderSpec.post enc Tryd.prog Tryd.f4 false true false false) := by
  refine returnsInHanded_of_change_and (C := Tryd.checked) (X := fun w _ => laidMetH Tryd.prog [("errors.errorType", Rows.laid_errors_errorType)] w) (fun _ _ _ hh h => h.of_heap hh) own started (by kernel_rfl) Tryd.func4
    (ChangeSpec.witness_at (enc := enc) (C := Tryd.checked) (os := os) (X := fun w _ => laidMetH Tryd.prog [("errors.errorType", Rows.laid_errors_errorType)] w) false (laidWorld os) #[.int .i64 0, .slice none 0 0, .int .i64 0] 8 rfl (by kernel_rfl) (by kernel_rfl) (by kernel_rfl) (by kernel_rfl) (by kernel_rfl) (laidWorld_met os _)) ?_
  intro W base args ds gs before hval hW _ _ hL _
  have hW' := hW
  obtain ⟨p, q, hA, hV, rfl, _, _⟩ := hW
  obtain ⟨rfl, rfl⟩ := trodVars_none hV
  refine (walkCardHeader W hL base args enc ds p hval hA).mono fun e W' ⟨he, bel⟩ => ?_
  subst he
  have hlen : ds.length = Tryd.f4.params.toList.length := trodAll_length hA
  have hs : Rows.cardHeaderSpec.fn H (ds ++ []) = { results := [.lit (.bool true)], args := ds } := by
    rw [Tryd.params4] at hlen
    match ds, hlen with
    | [d0, d1, d2], _ => rfl
  refine ⟨_, rfl, ds, [], p ++ [], [], p, [], hW', ?_, ?_, ?_, bel.frame _, fun h => by cases h⟩
  · rw [hs]; exact trodAll_mk1 (shut_bool Tryd.underlying4 true)
  · rw [hs]; exact trodAll_stays laid bel (by kernel_rfl) hA
  · rw [hs]; rfl
theorem cardHeader_over : Rows.CardHeaderSaid :=
  OpenClaim.holds_of_wide 4 Tryd.f4 rfl rfl rfl rfl rfl rfl rfl ⟨rfl, rfl, rfl, rfl, rfl⟩ rfl rfl rfl rfl rfl (by kernel_rfl) Tryd.func4 (by kernel_rfl)
    (of_decide_eq_true (by kernel_rfl)) (by unfold Func.isWrapper; first | (rw [if_pos (by decide +kernel)]; kernel_rfl) | (rw [if_neg (by decide +kernel)]; exact ⟨rfl, rfl⟩))
    (fun os started H enc _ => cardHeader_lifted os started H enc)
theorem cardHeader_holds : Rows.CardHeaderCardSaid :=
  Claim7.holds_tied_plain_at .later [] [.handle] true (true, "7868cf388bfeb461d841a32b5f4fd10cba918c0928488dc1aec46b30f0b64366") true
    cardHeader_over (fun _ h => by cases h) (by kernel_rfl) (fun _ h => by cases h) cardHeader_row_tie rfl ⟨rfl, rfl⟩ (by kernel_rfl) rfl
    (fun f fn hf hfn => by
      obtain rfl : f = 4 := Option.some.inj ((show Tryd.prog.funcNamed "phosphor/phosphorlaw03.CardHeader" = some 4 by kernel_rfl).symm.trans hf) |>.symm
      obtain rfl : fn = Tryd.f4 := (Option.some.inj (Tryd.func4.symm.trans hfn)).symm
      exact ⟨by kernel_rfl, fun j t ht => by
        rw [Tryd.params4] at ht
        have h3 : t = 3 ∨ t = 22 := by
          rcases j with _ | _ | _ | j
          · obtain rfl : 3 = t := by simpa using ht
            simp
          · obtain rfl : 22 = t := by simpa using ht
            simp
          · obtain rfl : 3 = t := by simpa using ht
            simp
          · simp at ht
        rcases h3 with rfl | rfl
        · exact (show Tryd.prog.wantsStandIn 3 = false by kernel_rfl)
        · exact (show Tryd.prog.wantsStandIn 22 = false by kernel_rfl)⟩)
    (by kernel_rfl)
#print axioms cardHeader_holds
end Go.Proofs.YtabfnphbbdklgaaDoor
