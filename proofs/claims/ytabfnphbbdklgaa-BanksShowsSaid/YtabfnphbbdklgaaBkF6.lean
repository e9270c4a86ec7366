import Derived.Test.YtabfnphbbdklgaaBkD
set_option linter.unusedVariables false
set_option linter.unusedSimpArgs false
namespace Go.Proofs.Ytabfnphbbdklgaa
open Go Go.R
theorem lawShows6_ev (n : Int) : evCallH Try.prog [sPage, sLatch] [(13, .int .i64 6)] 3000 8 [.int .i64 n] [] (asB) =
  cond ((wr Go.IntKind.i64 (n.tmod 11 + 11)).tmod 11 == 6) (some true) none := by kernel_rfl
theorem lawShows7_ev (n : Int) : evCallH Try.prog [sPage, sLatch] [(13, .int .i64 7)] 3000 8 [.int .i64 n] [] (asB) =
  cond ((wr Go.IntKind.i64 (n.tmod 11 + 11)).tmod 11 == 7) (some true) none := by kernel_rfl
theorem lawShows8_ev (n : Int) : evCallH Try.prog [sPage, sLatch] [(13, .int .i64 8)] 3000 8 [.int .i64 n] [] (asB) =
  cond ((wr Go.IntKind.i64 (n.tmod 11 + 11)).tmod 11 == 8) (some true) none := by kernel_rfl
end Go.Proofs.Ytabfnphbbdklgaa
