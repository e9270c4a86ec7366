/-
  The reference's text of an instruction of 7 bytes.
-/
import Derived.Test.YtnemecmloeonjaaOg
namespace Go.Proofs.Ytnemecmloeonjaa
open Go Go.R
theorem evB37 (off len cap hi : Nat) (f : Nat → Int) : evB 3 7 off len cap hi f = rowB 3 7 off len hi f := by kernel_rfl
end Go.Proofs.Ytnemecmloeonjaa
