/-
  The reference's Of: rows 160 to 191.
-/
import Derived.Test.YtnemecmloeonjaaOd
namespace Go.Proofs.Ytnemecmloeonjaa
open Go Go.R
theorem rof_rows5 (b : Int) : (List.range 32).map (fun k => rofE (160 + k) b) = (List.range 32).map (fun k => cond ((by8 b : Int) == ((160 + k : Nat) : Int)) (some (row (160 + k))) none) := by kernel_rfl
end Go.Proofs.Ytnemecmloeonjaa
