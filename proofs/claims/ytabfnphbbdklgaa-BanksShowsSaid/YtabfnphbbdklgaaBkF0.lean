import Derived.Test.YtabfnphbbdklgaaBkD
set_option linter.unusedVariables false
set_option linter.unusedSimpArgs false
namespace Go.Proofs.Ytabfnphbbdklgaa
open Go Go.R
theorem lawShows0_ev (n : Int) : evCallH Try.prog [sPage, sLatch] [(13, .int .i64 0)] 3000 8 [.int .i64 n] [] (asB) =
  cond ((wr Go.IntKind.i64 (n.tmod 11 + 11)).tmod 11 == 0) (some true) none := by kernel_rfl
theorem lawShows1_ev (n : Int) : evCallH Try.prog [sPage, sLatch] [(13, .int .i64 1)] 3000 8 [.int .i64 n] [] (asB) =
  cond ((wr Go.IntKind.i64 (n.tmod 11 + 11)).tmod 11 == 1) (some true) none := by kernel_rfl
theorem lawShows2_ev (n : Int) : evCallH Try.prog [sPage, sLatch] [(13, .int .i64 2)] 3000 8 [.int .i64 n] [] (asB) =
  cond ((wr Go.IntKind.i64 (n.tmod 11 + 11)).tmod 11 == 2) (some true) none := by kernel_rfl
end Go.Proofs.Ytabfnphbbdklgaa
