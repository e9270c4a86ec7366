import Derived.Test.YtabfnphbbdklgaaBkD
set_option linter.unusedVariables false
set_option linter.unusedSimpArgs false
namespace Go.Proofs.Ytabfnphbbdklgaa
open Go Go.R
theorem lawShows9_ev (n : Int) : evCallH Try.prog [sPage, sLatch] [(13, .int .i64 9)] 3000 8 [.int .i64 n] [] (asB) =
  cond ((wr Go.IntKind.i64 (n.tmod 11 + 11)).tmod 11 == 9) (some true) none := by kernel_rfl
theorem lawShows10_ev (n : Int) : evCallH Try.prog [sPage, sLatch] [(13, .int .i64 10)] 3000 8 [.int .i64 n] [] (asB) =
  cond ((wr Go.IntKind.i64 (n.tmod 11 + 11)).tmod 11 == 10) (some true) none := by kernel_rfl
end Go.Proofs.Ytabfnphbbdklgaa
