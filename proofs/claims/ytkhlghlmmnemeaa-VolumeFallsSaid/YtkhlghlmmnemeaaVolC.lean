import Derived.Test.YtkhlghlmmnemeaaVolB
namespace Go.Proofs.Ytkhlghlmmnemeaa
open Go Go.R
theorem gain_ev (a b c : Int) : evCall Try.prog [sLevel] 100 15 [.int .i64 a, .int .i64 b, .int .i64 c] [] (fun v _ => some v) =
  some (V.int Go.IntKind.i64 (lev (wr Go.IntKind.i64 (wr Go.IntKind.i64 (wr Go.IntKind.i64 (31 - bitI BinOp.and Go.IntKind.i64 a 31) + wr Go.IntKind.i64 (2 * wr Go.IntKind.i64 (15 - bitI BinOp.and Go.IntKind.i64 b 15))) + wr Go.IntKind.i64 (2 * wr Go.IntKind.i64 (15 - bitI BinOp.and Go.IntKind.i64 c 15)))))) := by kernel_rfl
theorem rgain_ev (a b c : Int) : evCall Try.prog [sRLevel, sMod] 100 16 [.int .i64 a, .int .i64 b, .int .i64 c] [] (fun v _ => some v) =
  some (V.int Go.IntKind.i64 (lev (wr Go.IntKind.i64 (wr Go.IntKind.i64 (wr Go.IntKind.i64 (31 - a % 32) + wr Go.IntKind.i64 (2 * wr Go.IntKind.i64 (15 - b % 16))) + wr Go.IntKind.i64 (2 * wr Go.IntKind.i64 (15 - c % 16)))))) := by kernel_rfl
end Go.Proofs.Ytkhlghlmmnemeaa
