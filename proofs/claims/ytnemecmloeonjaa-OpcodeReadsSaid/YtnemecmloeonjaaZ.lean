/- Closed facts of the program, used by all texts of this seat. -/
import Derived.Test.YtnemecmloeonjaaR
import Derived.Test.YtnemecmloeonjaaProg
namespace Go.Proofs.Ytnemecmloeonjaa
open Go Go.R
theorem hN : NamesOK Try.prog := names_of (by kernel_rfl)
theorem hM : Try.prog.follows .mixedOrders = true := by kernel_rfl
theorem own : ownKnob Try.prog.godebug = none := by kernel_rfl
theorem laid : laidOutB Try.prog = true := by kernel_rfl
end Go.Proofs.Ytnemecmloeonjaa
