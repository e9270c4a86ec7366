import Derived.Test.YtcmlhcabbnpibaaR
import Derived.Test.YtcmlhcabbnpibaaProg
namespace Go.Proofs.Ytcmlhcabbnpibaa
open Go Go.R
theorem period_ev (b : Int) : evCall Try.prog [] 100 15 [.int .i64 b] [] (fun v _ => some v) =
  cond (Go.IntKind.i64.wrap (31 - bitI BinOp.and Go.IntKind.i64 b 31) != 0) (some (V.int Go.IntKind.i64 (Go.IntKind.i64.wrap (128 * Go.IntKind.i64.wrap (31 - bitI BinOp.and Go.IntKind.i64 b 31))))) (some (V.int Go.IntKind.i64 64)) := by kernel_rfl
theorem state_ev (s : Int) : evCall Try.prog [] 100 34 [.int .i64 s] [] (fun v _ => some v) =
  cond (bitI BinOp.and Go.IntKind.i64 s 262143 == 0) (some (V.int Go.IntKind.i64 1)) (some (V.int Go.IntKind.i64 (bitI BinOp.and Go.IntKind.i64 s 262143))) := by kernel_rfl
end Go.Proofs.Ytcmlhcabbnpibaa
