/-
  The reference's text of an instruction of 2 bytes.
-/
import Derived.Test.YtnemecmloeonjaaOg
namespace Go.Proofs.Ytnemecmloeonjaa
open Go Go.R
theorem evB31 (off len cap hi : Nat) (f : Nat → Int) : evB 3 1 off len cap hi f = rowB 3 1 off len hi f := by kernel_rfl
theorem evB32 (off len cap hi : Nat) (f : Nat → Int) : evB 3 2 off len cap hi f = rowB 3 2 off len hi f := by kernel_rfl
theorem evB42 (off len cap hi : Nat) (f : Nat → Int) : evB 4 2 off len cap hi f = rowB 4 2 off len hi f := by kernel_rfl
end Go.Proofs.Ytnemecmloeonjaa
