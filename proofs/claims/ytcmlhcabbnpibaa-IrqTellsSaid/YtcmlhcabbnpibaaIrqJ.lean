import Derived.Test.YtcmlhcabbnpibaaIrqI
set_option linter.unusedVariables false
set_option linter.unusedSimpArgs false
namespace Go.Proofs.Ytcmlhcabbnpibaa
open Go Go.R
theorem irqTells_ok (s : Nat → Int) (_ : ∀ i, i < 2 → IntKind.i64.has (s i)) (n : Nat → Int) (_ : ∀ i, i < 3 → IntKind.i64.has (n i)) (on : Bool) :
    evCallH Try.prog [sPick, sRaise, sWrite, sRead, sRPick, sRRaise, sRWrite, sRRead] [(24, .int .i64 (pickN (bt 4 (n 0)) (bt 4 (s 1)) (bt 4 (s 0)) (bt 2 (s 1)) (bt 2 (s 0)) (bt 1 (s 1)) (bt 1 (s 0)))), (25, .bool (pickB (bt 4 (n 0)) (bt 4 (s 1)) (bt 4 (s 0)) (bt 2 (s 1)) (bt 2 (s 0)) (bt 1 (s 1)) (bt 1 (s 0)))), (34, .int .i64 (pickN (bt 4 (n 0)) (bt 4 (s 1)) (bt 4 (s 0)) (bt 2 (s 1)) (bt 2 (s 0)) (bt 1 (s 1)) (bt 1 (s 0)))), (35, .bool (pickB (bt 4 (n 0)) (bt 4 (s 1)) (bt 4 (s 0)) (bt 2 (s 1)) (bt 2 (s 0)) (bt 1 (s 1)) (bt 1 (s 0))))] 100 10 [.aggi .i64 2 s, .aggi .i64 3 n, .bool on] [] asB = some true := by
  refine (lawITells_ev s n on _ _).trans ?_
  simp only [beq_self_eq_true, cond_true, Bool.and_self]
end Go.Proofs.Ytcmlhcabbnpibaa
