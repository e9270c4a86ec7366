import Derived.Test.YtabfnphbbdklgaaBkD
set_option linter.unusedVariables false
set_option linter.unusedSimpArgs false
namespace Go.Proofs.Ytabfnphbbdklgaa
open Go Go.R
theorem lawShows3_ev (n : Int) : evCallH Try.prog [sPage, sLatch] [(13, .int .i64 3)] 3000 8 [.int .i64 n] [] (asB) =
  cond ((wr Go.IntKind.i64 (n.tmod 11 + 11)).tmod 11 == 3) (some true) none := by kernel_rfl
theorem lawShows4_ev (n : Int) : evCallH Try.prog [sPage, sLatch] [(13, .int .i64 4)] 3000 8 [.int .i64 n] [] (asB) =
  cond ((wr Go.IntKind.i64 (n.tmod 11 + 11)).tmod 11 == 4) (some true) none := by kernel_rfl
theorem lawShows5_ev (n : Int) : evCallH Try.prog [sPage, sLatch] [(13, .int .i64 5)] 3000 8 [.int .i64 n] [] (asB) =
  cond ((wr Go.IntKind.i64 (n.tmod 11 + 11)).tmod 11 == 5) (some true) none := by kernel_rfl
end Go.Proofs.Ytabfnphbbdklgaa
