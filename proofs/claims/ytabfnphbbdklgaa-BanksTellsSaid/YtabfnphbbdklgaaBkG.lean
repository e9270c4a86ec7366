import Derived.Test.YtabfnphbbdklgaaBkD
set_option linter.unusedVariables false
set_option linter.unusedSimpArgs false
namespace Go.Proofs.Ytabfnphbbdklgaa
open Go Go.R
theorem lawClasses_ev (n : Int) (m K : Int) (b1 b2 : Bool) : evCallH Try.prog [sClass] [(12, .int .i64 m), (40, .int .i64 K), (41, .bool b1), (47, .bool b2)] 9000 3 [.int .i64 n] [] (asB) =
  cond (n.tmod 1099511627776 == m) (cond ((bif m == 48 || m == 96 then 1 else bif m == 320 then 2 else 0) == K) (cond ((m == 1 || m == 2 || m == 4 || m == 8 || m == 16 || m == 32 || m == 64 || m == 128 || m == 48 || m == 96 || m == 320) == b1) (cond ((wr Go.IntKind.i64 (2 * m) == 1 || wr Go.IntKind.i64 (2 * m) == 2 || wr Go.IntKind.i64 (2 * m) == 4 || wr Go.IntKind.i64 (2 * m) == 8 || wr Go.IntKind.i64 (2 * m) == 16 || wr Go.IntKind.i64 (2 * m) == 32 || wr Go.IntKind.i64 (2 * m) == 64 || wr Go.IntKind.i64 (2 * m) == 128 || wr Go.IntKind.i64 (2 * m) == 48 || wr Go.IntKind.i64 (2 * m) == 96 || wr Go.IntKind.i64 (2 * m) == 320) == b2) (cond (!b1) (some true) (cond (K != 0) (some true) (cond (m == 128) (some true) (some b2)))) none) none) none) none := by kernel_rfl
end Go.Proofs.Ytabfnphbbdklgaa
