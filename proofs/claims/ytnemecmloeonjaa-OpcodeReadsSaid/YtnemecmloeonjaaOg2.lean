/-
  The reference's text of an instruction of 3 bytes.
-/
import Derived.Test.YtnemecmloeonjaaOg
namespace Go.Proofs.Ytnemecmloeonjaa
open Go Go.R
theorem evB33 (off len cap hi : Nat) (f : Nat → Int) : evB 3 3 off len cap hi f = rowB 3 3 off len hi f := by kernel_rfl
theorem evB43 (off len cap hi : Nat) (f : Nat → Int) : evB 4 3 off len cap hi f = rowB 4 3 off len hi f := by kernel_rfl
end Go.Proofs.Ytnemecmloeonjaa
