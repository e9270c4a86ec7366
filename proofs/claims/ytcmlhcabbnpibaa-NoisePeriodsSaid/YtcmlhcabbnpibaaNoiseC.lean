import Derived.Test.YtcmlhcabbnpibaaNoiseB
namespace Go.Proofs.Ytcmlhcabbnpibaa
open Go Go.R
theorem lawPeriods_ev (b : Int) : evCall Try.prog [sPeriod] 100 3 [.int .i64 b] [] (fun v _ => some v) =
  cond (decide (per b < 64)) (some (V.bool false)) (cond (decide (per b > 3968)) (some (V.bool false)) (cond (per b != per (bitI BinOp.and Go.IntKind.i64 b 31)) (some (V.bool false)) (cond (per b != per (bitI BinOp.or Go.IntKind.i64 b 128)) (some (V.bool false)) (cond (bitI BinOp.and Go.IntKind.i64 b 31 == 31) (cond (per b == 64) (some (V.bool true)) (cond (decide (bitI BinOp.and Go.IntKind.i64 b 31 < 31)) (cond (decide (per b > per (Go.IntKind.i64.wrap (bitI BinOp.and Go.IntKind.i64 b 31 + 1)))) (some (V.bool ((per b).tmod 128 == 0))) (some (V.bool false))) (some (V.bool false)))) (cond (decide (bitI BinOp.and Go.IntKind.i64 b 31 < 31)) (cond (decide (per b > per (Go.IntKind.i64.wrap (bitI BinOp.and Go.IntKind.i64 b 31 + 1)))) (some (V.bool ((per b).tmod 128 == 0))) (some (V.bool false))) (some (V.bool false))))))) := by kernel_rfl
end Go.Proofs.Ytcmlhcabbnpibaa
