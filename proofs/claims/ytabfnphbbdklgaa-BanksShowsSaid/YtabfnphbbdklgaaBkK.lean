import Derived.Test.YtabfnphbbdklgaaBkF0
import Derived.Test.YtabfnphbbdklgaaBkF3
import Derived.Test.YtabfnphbbdklgaaBkF6
import Derived.Test.YtabfnphbbdklgaaBkF9
import Derived.Test.YtabfnphbbdklgaaBkJ
set_option linter.unusedVariables false
set_option linter.unusedSimpArgs false
namespace Go.Proofs.Ytabfnphbbdklgaa
open Go Go.R
theorem banksShows_ok (n : Int) (_ : IntKind.i64.has n) : evCallH Try.prog [sPage, sLatch] [(13, .int .i64 (n % 11))] 3000 8 [.int .i64 n] [] asB = some true := by
  have h : n % 11 = 0 ∨ n % 11 = 1 ∨ n % 11 = 2 ∨ n % 11 = 3 ∨ n % 11 = 4 ∨ n % 11 = 5 ∨ n % 11 = 6 ∨ n % 11 = 7 ∨ n % 11 = 8 ∨ n % 11 = 9 ∨ n % 11 = 10 := by omega
  have e := eleven n
  rcases h with h | h | h | h | h | h | h | h | h | h | h <;> rw [h] at e ⊢
  · exact (lawShows0_ev n).trans (by rw [e]; rfl)
  · exact (lawShows1_ev n).trans (by rw [e]; rfl)
  · exact (lawShows2_ev n).trans (by rw [e]; rfl)
  · exact (lawShows3_ev n).trans (by rw [e]; rfl)
  · exact (lawShows4_ev n).trans (by rw [e]; rfl)
  · exact (lawShows5_ev n).trans (by rw [e]; rfl)
  · exact (lawShows6_ev n).trans (by rw [e]; rfl)
  · exact (lawShows7_ev n).trans (by rw [e]; rfl)
  · exact (lawShows8_ev n).trans (by rw [e]; rfl)
  · exact (lawShows9_ev n).trans (by rw [e]; rfl)
  · exact (lawShows10_ev n).trans (by rw [e]; rfl)
end Go.Proofs.Ytabfnphbbdklgaa
