/- Closed facts of the program, used by all texts of this seat. -/
import Derived.Test.YtabfnphbbdklgaaDoorR
import Derived.Test.YtabfnphbbdklgaaDoorProg
namespace Go.Proofs.YtabfnphbbdklgaaDoor
open Go Go.R
theorem hN : NamesOK Tryd.prog := names_of (by kernel_rfl)
theorem hM : Tryd.prog.follows .mixedOrders = true := by kernel_rfl
theorem own : ownKnob Tryd.prog.godebug = none := by kernel_rfl
theorem laid : laidOutB Tryd.prog = true := by kernel_rfl
end Go.Proofs.YtabfnphbbdklgaaDoor
