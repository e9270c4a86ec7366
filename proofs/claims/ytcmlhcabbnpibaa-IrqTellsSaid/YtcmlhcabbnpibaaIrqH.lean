import Derived.Test.YtcmlhcabbnpibaaIrqG
set_option linter.unusedVariables false
set_option linter.unusedSimpArgs false
namespace Go.Proofs.Ytcmlhcabbnpibaa
open Go Go.R
def sRPick : Summ Try.prog := mkPure [sMod, sPut] hN hM 26 100 (fun args => match args with | [.int .i64 m, .int .i64 l, .int .i64 p] => some (true, pickV m l p) | _ => none) (by
  intro args v h
  split at h
  · simp only [Option.some.injEq, Prod.mk.injEq, true_and] at h; subst h; exact ⟨rfl, rfl, [], rpick_eq _ _ _⟩
  · cases h)
def sRRaise : Summ Try.prog := mkPure [sMod, sPut] hN hM 27 100 (fun args => match args with | [.int .i64 m, .int .i64 l, .int .i64 n, .bool on] => some (true, .tup [.int .i64 (m % 8), .int .i64 (raiseL l n on)]) | _ => none) (by
  intro args v h
  split at h
  · simp only [Option.some.injEq, Prod.mk.injEq, true_and] at h; subst h; exact ⟨rfl, rfl, [], rraise_eq _ _ _ _⟩
  · cases h)
def sRWrite : Summ Try.prog := mkPure [sMod, sPut] hN hM 28 100 (fun args => match args with | [.int .i64 m, .int .i64 l, .int .i64 n, .int .i64 b] => some (true, .tup [.int .i64 (writeM m n b), .int .i64 (writeL l n)]) | _ => none) (by
  intro args v h
  split at h
  · simp only [Option.some.injEq, Prod.mk.injEq, true_and] at h; subst h; exact ⟨rfl, rfl, [], rwrite_eq _ _ _ _⟩
  · cases h)
def sRRead : Summ Try.prog := mkPure [sMod, sPut] hN hM 29 100 (fun args => match args with | [.int .i64 m, .int .i64 l, .int .i64 n] => some (true, .int .i64 (readN m l n)) | _ => none) (by
  intro args v h
  split at h
  · simp only [Option.some.injEq, Prod.mk.injEq, true_and] at h; subst h; exact ⟨rfl, rfl, [], rread_eq _ _ _⟩
  · cases h)
end Go.Proofs.Ytcmlhcabbnpibaa
