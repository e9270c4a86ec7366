/-
  What the condition of the cards gives a walk: the cell of errors.errorType.
-/
import Derived.Test.YtabfnphbbdklgaaDoorDs
import Derived.ChangeSame
import Derived.ChangeVars
import Derived.JoinedOf
import Derived.RowKit
import Derived.RowKitTokens
import Derived.LaidLaws
import Derived.LaidHandle
import Derived.Stop.Joined
import Derived.Test.YtabfnphbbdklgaaDoorRows
set_option linter.unusedVariables false
set_option linter.unusedSimpArgs false
namespace Go.Proofs.YtabfnphbbdklgaaDoor
open Go Go.R Go.RowKit Go.ChangeShapes Go.WideShapes Go.ChangeAt
theorem et : Tryd.prog.globalNamed "errors.errorType" = some 0 := by kernel_rfl
theorem rt : (Tryd.prog.cutTypes.find? (·.1 == "internal/reflectlite.rtype")).map (·.2) = some 68 := by kernel_rfl
theorem oneRow : ((List.range 110).filter fun t => Tryd.prog.rowNamed t [101, 114, 114, 111, 114]) = [43] := by kernel_rfl
theorem tsize : Tryd.prog.types.size = 110 := by kernel_rfl
theorem handle_of_laid {W : World} (h : laidMetH Tryd.prog [("errors.errorType", Rows.laid_errors_errorType)] W) : W.cell? ⟨0, 0, none⟩ = some errT := by
  have h' : laidMet Tryd.prog [] W ∧ handlesMet Tryd.prog [("errors.errorType", Rows.laid_errors_errorType)] W := h
  obtain ⟨name, u, ty, e1, e2, e3, e4, e5⟩ := h'.2 _ (List.mem_singleton.2 rfl)
  have en : name = [101, 114, 114, 111, 114] := (Option.some.inj e1).symm
  subst en
  obtain rfl := Option.some.inj (rt.symm.trans e2)
  have hm : ty ∈ (List.range 110).filter fun t => Tryd.prog.rowNamed t [101, 114, 114, 111, 114] := List.mem_filter.2 ⟨List.mem_range.2 (by rw [← tsize]; exact e3), e4⟩
  rw [oneRow] at hm
  obtain rfl := List.mem_singleton.1 hm
  have hh : typeHandle Tryd.prog 43 = .pointer (some ⟨1, 43, none⟩) := by kernel_rfl
  rw [hh] at e5
  simpa [errT] using World.var?_cell et e5 0
theorem glob_at {W : World} (hg : W.cell? ⟨0, 0, none⟩ = some errT) (ρ : Rho) (i : Nat) (h : (ρ i).1 = 0) : (Blk.glob 0 errT).At ρ i W := by
  refine ⟨h, ?_⟩
  rw [h]
  unfold World.cell? at hg
  split at hg
  · rename_i c e fr hh; exact ⟨c, e, fr, hh, hg⟩
  all_goals cases hg
theorem glob_lt {W : World} (hg : W.cell? ⟨0, 0, none⟩ = some errT) : 0 < W.heap.size := by
  rcases Nat.eq_zero_or_pos W.heap.size with h0 | h
  · simp [World.cell?, h0] at hg
  · exact h
theorem rel_glob {W : World} (hg : W.cell? ⟨0, 0, none⟩ = some errT) : Rel ⟨W, noS⟩ (fun _ => (0, 0)) [.glob 0 errT] W := by
  have one : ∀ (i : Nat) (x : Blk), [Blk.glob 0 errT][i]? = some x → i = 0 ∧ x = .glob 0 errT := by
    intro i x hx
    match i with
    | 0 => simp at hx; exact ⟨rfl, hx.symm⟩
    | i + 1 => simp at hx
  refine ⟨fun i x hx => ?_, fun i x hx _ => glob_lt hg, fun i j bi bj hi hj _ _ _ _ => ?_, fun i x hx => ?_, fun i x hx hr => ?_, Keeps.refl _ _⟩
  · obtain ⟨rfl, rfl⟩ := one i x hx; exact glob_at hg _ _ rfl
  · rw [(one i bi hi).1, (one j bj hj).1]
  · obtain ⟨rfl, rfl⟩ := one i x hx; rfl
  · obtain ⟨rfl, rfl⟩ := one i x hx; cases hr
theorem rel_glob_ro {W : World} (hg : W.cell? ⟨0, 0, none⟩ = some errT) {b off hi : Nat} {f : Nat → Int} (hr : Rel ⟨W, noS⟩ (fun _ => (b, 0)) [.ro .u8 off hi f] W) :
    Rel ⟨W, noS⟩ (fun i => if i = 0 then (0, 0) else (b, 0)) [.glob 0 errT, .ro .u8 off hi f] W := by
  have one : ∀ (i : Nat) (x : Blk), [Blk.glob 0 errT, .ro .u8 off hi f][i]? = some x → (i = 0 ∧ x = .glob 0 errT) ∨ (i = 1 ∧ x = .ro .u8 off hi f) := by
    intro i x hx
    match i with
    | 0 => simp at hx; exact .inl ⟨rfl, hx.symm⟩
    | 1 => simp at hx; exact .inr ⟨rfl, hx.symm⟩
    | i + 2 => simp at hx
  refine ⟨fun i x hx => ?_, fun i x hx _ => ?_, fun i j bi bj hi hj _ _ hq _ => ?_, fun i x hx => ?_, fun i x hx hq => ?_, Keeps.refl _ _⟩
  · rcases one i x hx with ⟨rfl, rfl⟩ | ⟨rfl, rfl⟩
    · exact glob_at hg _ _ rfl
    · exact hr.at_ 0 _ rfl
  · rcases one i x hx with ⟨rfl, rfl⟩ | ⟨rfl, rfl⟩
    · exact glob_lt hg
    · exact hr.lt 0 _ rfl rfl
  · exfalso
    rcases one i bi hi with ⟨_, rfl⟩ | ⟨_, rfl⟩ <;> rcases one j bj hj with ⟨_, rfl⟩ | ⟨_, rfl⟩ <;> simp [Blk.rw] at hq
  · rcases one i x hx with ⟨rfl, rfl⟩ | ⟨rfl, rfl⟩ <;> rfl
  · rcases one i x hx with ⟨rfl, rfl⟩ | ⟨rfl, rfl⟩ <;> cases hq
/-- A world that meets the condition: the settled one, the variable's cell laid. -/
noncomputable def laidWorld (os : Os) : World :=
  let w0 := World.holding Tryd.prog os ⟨#[], #[], []⟩
  { w0 with heap := w0.heap.modify 0 fun
      | .cells _ t frozen => .cells #[.iface 68 (.agg #[.pointer (some ⟨1, 43, none⟩)])] t frozen
      | o => o }
theorem laidWorld_met (os : Os) (args : Array Value) : laidMetH Tryd.prog [("errors.errorType", Rows.laid_errors_errorType)] ((laidWorld os).forCall (fun _ _ => 0) ⟨#[], args, []⟩).memory :=
  laidMetH_of_parts (laidMet_nil _ _) (by kernel_rfl)
end Go.Proofs.YtabfnphbbdklgaaDoor
