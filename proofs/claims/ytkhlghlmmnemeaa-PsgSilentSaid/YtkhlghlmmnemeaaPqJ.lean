import Derived.Test.YtkhlghlmmnemeaaPqI
import Derived.Test.YtkhlghlmmnemeaaPsT
set_option linter.unusedVariables false
set_option linter.unusedSimpArgs false
namespace Go.Proofs.Ytkhlghlmmnemeaa
open Go Go.R
/-- a sample: what is heard, and the sound behind it -/
def sSample : Summ Try.prog := mkLocal 34 (fun args blk => match args, blk with | [.ptr 0 0], .ints 32 .i64 244 f => some (okP f, outV (goF f), .ints 32 .i64 244 (goF f)) | _, _ => none) (by
  intro args blk v blk' h; split at h
  · simp only [Option.some.injEq, Prod.mk.injEq] at h; obtain ⟨h1, rfl, rfl⟩ := h
    refine ⟨rfl, rfl, rfl, rfl, rfl, fun B ρ w hr => (sample_calls h1 B ρ w hr).mono ?_⟩
    rintro e w' ⟨x, rfl, u, σ', ρ', a1, a2, a3, a4, a5, a6⟩
    simp only [Option.some.injEq, Prod.mk.injEq] at a6
    obtain ⟨rfl, a6⟩ := a6
    refine ⟨x, rfl, _, σ', ρ', a1, a2, a3, a4, a5, ?_⟩
    cases σ' with
    | nil => simp at a6
    | cons y l => simp at a6; rw [a6]; rfl
  · cases h)
/-- so many samples on -/
def itF (f : Nat → Int) : Nat → Nat → Int
  | 0 => f
  | n + 1 => goF (itF f n)
theorem it_ok {f : Nat → Int} (h : okP f = true) : ∀ n, okP (itF f n) = true
  | 0 => h
  | n + 1 => go_ok (it_ok h n)
/-- what is heard, sample by sample, left and right in turn -/
def heard (f : Nat → Int) (j : Nat) : Int := sumF (itF f (j / 2 + 1)) (j % 2 == 0) 6
end Go.Proofs.Ytkhlghlmmnemeaa
