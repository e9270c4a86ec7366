/-
  The reference's byte.
-/
import Derived.Test.YtnemecmloeonjaaOa
set_option linter.unusedVariables false
set_option linter.unusedSimpArgs false
namespace Go.Proofs.Ytnemecmloeonjaa
open Go Go.R
theorem rbyte_ev (b : Int) : evCallH Try.prog [] [] 60 15 [.int .i64 b] [] (fun v _ => some v) = cond (decide (b.tmod 256 < 0)) (some (.int .i64 (wr .i64 (b.tmod 256 + 256)))) (some (.int .i64 (b.tmod 256))) := by kernel_rfl
theorem tmod256 (b : Int) : (0 ≤ b ∧ b.tmod 256 = b % 256) ∨ (b < 0 ∧ b.tmod 256 = -((-b) % 256)) := by
  rcases Int.lt_or_le b 0 with h | h
  · right
    refine ⟨h, ?_⟩
    have : b = -(-b) := by omega
    rw [this, Int.neg_tmod, tmod_pos (by omega)]
    simp
  · left; exact ⟨h, tmod_pos h 256⟩
theorem rbyte (b : Int) : evCallH Try.prog [] [] 60 15 [.int .i64 b] [] (fun v _ => some v) = some (.int .i64 (by8 b : Int)) := by
  have h8 : ((by8 b : Nat) : Int) = b % 256 := by unfold by8; omega
  rw [rbyte_ev, h8]
  rcases tmod256 b with ⟨h, e⟩ | ⟨h, e⟩
  · rw [e, decide_eq_false (by omega)]; rfl
  · rw [e]
    by_cases hz : (-b) % 256 = 0
    · rw [hz]
      have : b % 256 = 0 := by omega
      rw [this]; rfl
    · rw [decide_eq_true (by omega), cond_true, wrap_id (by omega) (by omega)]
      have : -((-b) % 256) + 256 = b % 256 := by omega
      rw [this]
def sRByte : Summ Try.prog := mkPure [] hN hM 15 60 (fun args => match args with | [.int .i64 b] => some (true, .int .i64 (by8 b : Int)) | _ => none) (by
  intro args v h; split at h
  · simp only [Option.some.injEq, Prod.mk.injEq, true_and] at h; subst h
    exact ⟨rfl, rfl, _, rbyte _⟩
  · cases h)
noncomputable def rofE (k : Nat) (b : Int) : Option V := evCallH Try.prog [sRByte] [(10, .int .i64 k)] 200 11 [.int .i64 b] [] (fun v _ => some v)
end Go.Proofs.Ytnemecmloeonjaa
