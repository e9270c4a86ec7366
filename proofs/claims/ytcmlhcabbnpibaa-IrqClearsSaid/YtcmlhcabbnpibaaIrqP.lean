import Derived.Test.YtcmlhcabbnpibaaIrqB
set_option linter.unusedVariables false
set_option linter.unusedSimpArgs false
namespace Go.Proofs.Ytcmlhcabbnpibaa
open Go Go.R
theorem rput0_ev (n : Int) (on : Bool) : evCall Try.prog [sMod] 100 46 [.int .i64 n, .int .i64 0, .bool on] [] (fun v _ => some v) =
  cond on (some (V.int Go.IntKind.i64 (wr Go.IntKind.i64 (wr Go.IntKind.i64 (n % 65536 - wr Go.IntKind.i64 ((wr Go.IntKind.i64 ((n % 65536).tdiv 1)).tmod 2 * 1)) + 1)))) (some (V.int Go.IntKind.i64 (wr Go.IntKind.i64 (n % 65536 - wr Go.IntKind.i64 ((wr Go.IntKind.i64 ((n % 65536).tdiv 1)).tmod 2 * 1))))) := by kernel_rfl
theorem rput1_ev (n : Int) (on : Bool) : evCall Try.prog [sMod] 100 46 [.int .i64 n, .int .i64 1, .bool on] [] (fun v _ => some v) =
  cond on (some (V.int Go.IntKind.i64 (wr Go.IntKind.i64 (wr Go.IntKind.i64 (n % 65536 - wr Go.IntKind.i64 ((wr Go.IntKind.i64 ((n % 65536).tdiv 2)).tmod 2 * 2)) + 2)))) (some (V.int Go.IntKind.i64 (wr Go.IntKind.i64 (n % 65536 - wr Go.IntKind.i64 ((wr Go.IntKind.i64 ((n % 65536).tdiv 2)).tmod 2 * 2))))) := by kernel_rfl
theorem rput2_ev (n : Int) (on : Bool) : evCall Try.prog [sMod] 100 46 [.int .i64 n, .int .i64 2, .bool on] [] (fun v _ => some v) =
  cond on (some (V.int Go.IntKind.i64 (wr Go.IntKind.i64 (wr Go.IntKind.i64 (n % 65536 - wr Go.IntKind.i64 ((wr Go.IntKind.i64 ((n % 65536).tdiv 4)).tmod 2 * 4)) + 4)))) (some (V.int Go.IntKind.i64 (wr Go.IntKind.i64 (n % 65536 - wr Go.IntKind.i64 ((wr Go.IntKind.i64 ((n % 65536).tdiv 4)).tmod 2 * 4))))) := by kernel_rfl
end Go.Proofs.Ytcmlhcabbnpibaa
