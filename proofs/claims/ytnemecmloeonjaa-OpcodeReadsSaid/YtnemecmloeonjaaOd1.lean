/-
  The reference's Of: rows 32 to 63.
-/
import Derived.Test.YtnemecmloeonjaaOd
namespace Go.Proofs.Ytnemecmloeonjaa
open Go Go.R
theorem rof_rows1 (b : Int) : (List.range 32).map (fun k => rofE (32 + k) b) = (List.range 32).map (fun k => cond ((by8 b : Int) == ((32 + k : Nat) : Int)) (some (row (32 + k))) none) := by kernel_rfl
end Go.Proofs.Ytnemecmloeonjaa
