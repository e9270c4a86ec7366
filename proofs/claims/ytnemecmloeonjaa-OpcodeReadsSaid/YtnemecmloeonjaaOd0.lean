/-
  The reference's Of: rows 0 to 31.
-/
import Derived.Test.YtnemecmloeonjaaOd
namespace Go.Proofs.Ytnemecmloeonjaa
open Go Go.R
theorem rof_rows0 (b : Int) : (List.range 32).map (fun k => rofE (0 + k) b) = (List.range 32).map (fun k => cond ((by8 b : Int) == ((0 + k : Nat) : Int)) (some (row (0 + k))) none) := by kernel_rfl
end Go.Proofs.Ytnemecmloeonjaa
