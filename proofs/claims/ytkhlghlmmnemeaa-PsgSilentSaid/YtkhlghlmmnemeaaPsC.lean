import Derived.Test.YtkhlghlmmnemeaaPsB
set_option linter.unusedVariables false
set_option linter.unusedSimpArgs false
namespace Go.Proofs.Ytkhlghlmmnemeaa
open Go Go.R
theorem valid_ev (f : Nat → Int) : evCall Try.prog [sChan] 300 21 [.aggi .i64 244 f] [] (fun v _ => some v) =
  cond (decide (f 0 < 0)) (some (V.bool false)) (cond (decide (f 0 > 7)) (some (V.bool false)) (cond (decide (f 1 < 0)) (some (V.bool false)) (cond (decide (f 1 > 255)) (some (V.bool false)) (cond (decide (f 2 < 0)) (some (V.bool false)) (cond (decide (f 2 > 255)) (some (V.bool false)) (cond (decide (f 3 < 0)) (some (V.bool false)) (cond (decide (f 3 > 255)) (some (V.bool false)) (cond (!chB fun j => upd (fun j => 0) 0 40 (fun j => f (4 + j)) (0 + j)) (some (V.bool false)) (cond (!chB fun j => upd (fun j => 0) 0 40 (fun j => f (44 + j)) (0 + j)) (some (V.bool false)) (cond (!chB fun j => upd (fun j => 0) 0 40 (fun j => f (84 + j)) (0 + j)) (some (V.bool false)) (cond (!chB fun j => upd (fun j => 0) 0 40 (fun j => f (124 + j)) (0 + j)) (some (V.bool false)) (cond (!chB fun j => upd (fun j => 0) 0 40 (fun j => f (164 + j)) (0 + j)) (some (V.bool false)) (cond (!chB fun j => upd (fun j => 0) 0 40 (fun j => f (204 + j)) (0 + j)) (some (V.bool false)) (some (V.bool true))))))))))))))) := by kernel_rfl
end Go.Proofs.Ytkhlghlmmnemeaa
