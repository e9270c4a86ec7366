import Derived.Test.YtcmlhcabbnpibaaIrqH
set_option linter.unusedVariables false
set_option linter.unusedSimpArgs false
namespace Go.Proofs.Ytcmlhcabbnpibaa
open Go Go.R
theorem lawITells_ev (s n : Nat → Int) (on ok : Bool) (v : Int) : evCallH Try.prog [sPick, sRaise, sWrite, sRead, sRPick, sRRaise, sRWrite, sRRead] [(24, .int .i64 v), (25, .bool ok), (34, .int .i64 v), (35, .bool ok)] 100 10 [.aggi .i64 2 s, .aggi .i64 3 n, .bool on] [] (asB) =
  cond (pickN (bt 4 (n 0)) (bt 4 (s 1)) (bt 4 (s 0)) (bt 2 (s 1)) (bt 2 (s 0)) (bt 1 (s 1)) (bt 1 (s 0)) == v) (cond (pickB (bt 4 (n 0)) (bt 4 (s 1)) (bt 4 (s 0)) (bt 2 (s 1)) (bt 2 (s 0)) (bt 1 (s 1)) (bt 1 (s 0)) == ok) (cond (pickN (bt 4 (n 0)) (bt 4 (s 1)) (bt 4 (s 0)) (bt 2 (s 1)) (bt 2 (s 0)) (bt 1 (s 1)) (bt 1 (s 0)) == v) (cond (pickB (bt 4 (n 0)) (bt 4 (s 1)) (bt 4 (s 0)) (bt 2 (s 1)) (bt 2 (s 0)) (bt 1 (s 1)) (bt 1 (s 0)) == ok) (cond (v == v) (cond (ok == ok) (cond (s 0 % 8 == s 0 % 8 && (raiseL (s 1) (n 1) on == raiseL (s 1) (n 1) on && true)) (cond (writeM (s 0) (n 2) (n 1) == writeM (s 0) (n 2) (n 1) && (writeL (s 1) (n 2) == writeL (s 1) (n 2) && true)) (cond (readN (s 0) (s 1) (n 2) == readN (s 0) (s 1) (n 2)) (some true) (some false)) (some false)) (some false)) (some false)) (some false)) none) none) none) none := by kernel_rfl
end Go.Proofs.Ytcmlhcabbnpibaa
