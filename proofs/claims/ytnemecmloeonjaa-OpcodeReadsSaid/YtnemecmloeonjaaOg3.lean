/-
  The reference's text of an instruction of 4 bytes.
-/
import Derived.Test.YtnemecmloeonjaaOg
namespace Go.Proofs.Ytnemecmloeonjaa
open Go Go.R
theorem evB34 (off len cap hi : Nat) (f : Nat → Int) : evB 3 4 off len cap hi f = rowB 3 4 off len hi f := by kernel_rfl
end Go.Proofs.Ytnemecmloeonjaa
