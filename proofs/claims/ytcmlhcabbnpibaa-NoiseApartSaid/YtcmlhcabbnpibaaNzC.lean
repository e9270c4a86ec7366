import Derived.Test.YtcmlhcabbnpibaaNzB
set_option linter.unusedVariables false
set_option linter.unusedSimpArgs false
namespace Go.Proofs.Ytcmlhcabbnpibaa
open Go Go.R
theorem step_ev (s : Int) (t : Int) : evCallH Try.prog [sState, sOdd] [(4, .int .i64 t)] 100 16 [.int .i64 s] [] (fun v _ => some v) =
  cond (nst s == t) (cond (bitI BinOp.and Go.IntKind.i64 t 137219 == tapN (bitI BinOp.and Go.IntKind.i64 t 137219)) (some (V.int Go.IntKind.i64 (bitI BinOp.or Go.IntKind.i64 (t.fdiv 2) (wr Go.IntKind.i64 (parN (bitI BinOp.and Go.IntKind.i64 t 137219) * 131072))))) none) none := by kernel_rfl
theorem rstep_ev (s : Int) (t : Int) : evCallH Try.prog [sRState] [(5, .int .i64 t)] 100 20 [.int .i64 s] [] (fun v _ => some v) =
  cond (nst s == t) (some (V.int Go.IntKind.i64 (nst (wr Go.IntKind.i64 (wr Go.IntKind.i64 (t.tdiv 2) + wr Go.IntKind.i64 ((wr Go.IntKind.i64 (wr Go.IntKind.i64 (wr Go.IntKind.i64 (wr Go.IntKind.i64 ((wr Go.IntKind.i64 (t.tdiv 1)).tmod 2 + (wr Go.IntKind.i64 (t.tdiv 2)).tmod 2) + (wr Go.IntKind.i64 (t.tdiv 2048)).tmod 2) + (wr Go.IntKind.i64 (t.tdiv 4096)).tmod 2) + (wr Go.IntKind.i64 (t.tdiv 131072)).tmod 2)).tmod 2 * 131072)))))) none := by kernel_rfl
end Go.Proofs.Ytcmlhcabbnpibaa
