import Derived.Test.YtcmlhcabbnpibaaNzF
set_option linter.unusedVariables false
set_option linter.unusedSimpArgs false
namespace Go.Proofs.Ytcmlhcabbnpibaa
open Go Go.R
theorem twice_ev (f : Nat → Int) : evCall Try.prog [sOf] 100 37 [.aggi .i64 18 f] [] (fun v _ => some v) =
  some (V.aggi Go.IntKind.i64 18 fun j => upd (fun j => 0) 0 18 (fun j => upd1 (fun j => upd1 (fun j => upd1 (fun j => upd1 (fun j => upd1 (fun j => upd1 (fun j => upd1 (fun j => upd1 (fun j => upd1 (fun j => upd1 (fun j => upd1 (fun j => upd1 (fun j => upd1 (fun j => upd1 (fun j => upd1 (fun j => upd1 (fun j => upd1 (fun j => upd1 (fun j => 0) 0 (ofI (fun j => f (0 + j)) (f 0)) j) 1 (ofI (fun j => f (0 + j)) (f 1)) j) 2 (ofI (fun j => f (0 + j)) (f 2)) j) 3 (ofI (fun j => f (0 + j)) (f 3)) j) 4 (ofI (fun j => f (0 + j)) (f 4)) j) 5 (ofI (fun j => f (0 + j)) (f 5)) j) 6 (ofI (fun j => f (0 + j)) (f 6)) j) 7 (ofI (fun j => f (0 + j)) (f 7)) j) 8 (ofI (fun j => f (0 + j)) (f 8)) j) 9 (ofI (fun j => f (0 + j)) (f 9)) j) 10 (ofI (fun j => f (0 + j)) (f 10)) j) 11 (ofI (fun j => f (0 + j)) (f 11)) j) 12 (ofI (fun j => f (0 + j)) (f 12)) j) 13 (ofI (fun j => f (0 + j)) (f 13)) j) 14 (ofI (fun j => f (0 + j)) (f 14)) j) 15 (ofI (fun j => f (0 + j)) (f 15)) j) 16 (ofI (fun j => f (0 + j)) (f 16)) j) 17 (ofI (fun j => f (0 + j)) (f 17)) (0 + j)) (0 + j)) := by kernel_rfl
end Go.Proofs.Ytcmlhcabbnpibaa
