/-
  The reference's Of: rows 96 to 127.
-/
import Derived.Test.YtnemecmloeonjaaOd
namespace Go.Proofs.Ytnemecmloeonjaa
open Go Go.R
theorem rof_rows3 (b : Int) : (List.range 32).map (fun k => rofE (96 + k) b) = (List.range 32).map (fun k => cond ((by8 b : Int) == ((96 + k : Nat) : Int)) (some (row (96 + k))) none) := by kernel_rfl
end Go.Proofs.Ytnemecmloeonjaa
