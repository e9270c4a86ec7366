/-
  The reference's Of: rows 224 to 255.
-/
import Derived.Test.YtnemecmloeonjaaOd
namespace Go.Proofs.Ytnemecmloeonjaa
open Go Go.R
theorem rof_rows7 (b : Int) : (List.range 32).map (fun k => rofE (224 + k) b) = (List.range 32).map (fun k => cond ((by8 b : Int) == ((224 + k : Nat) : Int)) (some (row (224 + k))) none) := by kernel_rfl
end Go.Proofs.Ytnemecmloeonjaa
