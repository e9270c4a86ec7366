/-
  The reference's Of: rows 128 to 159.
-/
import Derived.Test.YtnemecmloeonjaaOd
namespace Go.Proofs.Ytnemecmloeonjaa
open Go Go.R
theorem rof_rows4 (b : Int) : (List.range 32).map (fun k => rofE (128 + k) b) = (List.range 32).map (fun k => cond ((by8 b : Int) == ((128 + k : Nat) : Int)) (some (row (128 + k))) none) := by kernel_rfl
end Go.Proofs.Ytnemecmloeonjaa
