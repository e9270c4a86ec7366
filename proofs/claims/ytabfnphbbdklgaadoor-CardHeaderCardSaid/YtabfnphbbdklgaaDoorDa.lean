/-
  errors.As of a nil error: by its contract.
-/
import Derived.Test.YtabfnphbbdklgaaDoorQ
import Derived.Test.YtabfnphbbdklgaaDoorZ
set_option linter.unusedVariables false
set_option linter.unusedSimpArgs false
namespace Go.Proofs.YtabfnphbbdklgaaDoor
open Go Go.R Go.RowKit
/-- errors.As(nil, target). -/
theorem as_nil (t : Value) (w : World) :
    Calls Tryd.prog 16 #[.nilIface, t] w fun e w' => e = .returned (.bool false) ∧ w' = w := by
  go_enter Tryd.func16, Tryd.ntmps16
  go_wp2
  go_ret
  exact ⟨rfl, rfl⟩
def sAs : Summ Tryd.prog where
  k := 16
  pure := true
  f := fun args σ => match args with | [.nilif, _] => some (true, .bool false, σ) | _ => none
  touch := fun _ => []
  keep := by
    intro args σ v σ' hf b _ _
    split at hf
    · simp only [Option.some.injEq, Prod.mk.injEq] at hf; obtain ⟨_, _, rfl⟩ := hf; rfl
    · cases hf
  ok := by
    intro args σ v σ' hf hs
    split at hf
    · rename_i t
      simp only [Option.some.injEq, Prod.mk.injEq, true_and] at hf
      obtain ⟨rfl, rfl⟩ := hf
      refine ⟨Nat.le_refl _, rfl, fun _ => rfl, fun B ρ w hr _ => ?_⟩
      have := as_nil (t.real ρ) w
      refine this.mono ?_
      rintro e w' ⟨rfl, rfl⟩
      exact ⟨ρ, fun _ _ => rfl, rfl, hr⟩
    · cases hf
end Go.Proofs.YtabfnphbbdklgaaDoor
