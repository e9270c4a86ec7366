/-
  The reference's Of: rows 192 to 223.
-/
import Derived.Test.YtnemecmloeonjaaOd
namespace Go.Proofs.Ytnemecmloeonjaa
open Go Go.R
theorem rof_rows6 (b : Int) : (List.range 32).map (fun k => rofE (192 + k) b) = (List.range 32).map (fun k => cond ((by8 b : Int) == ((192 + k : Nat) : Int)) (some (row (192 + k))) none) := by kernel_rfl
end Go.Proofs.Ytnemecmloeonjaa
