/-
  The reference's Of: rows 64 to 95.
-/
import Derived.Test.YtnemecmloeonjaaOd
namespace Go.Proofs.Ytnemecmloeonjaa
open Go Go.R
theorem rof_rows2 (b : Int) : (List.range 32).map (fun k => rofE (64 + k) b) = (List.range 32).map (fun k => cond ((by8 b : Int) == ((64 + k : Nat) : Int)) (some (row (64 + k))) none) := by kernel_rfl
end Go.Proofs.Ytnemecmloeonjaa
