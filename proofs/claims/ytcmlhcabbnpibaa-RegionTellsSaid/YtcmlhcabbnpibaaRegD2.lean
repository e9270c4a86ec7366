import Derived.Test.YtcmlhcabbnpibaaRegD
namespace Go.Proofs.Ytcmlhcabbnpibaa
open Go Go.R
theorem slow_eq (n : Int) : evCall Try.prog [] 100 32 [.int .i64 n] [] (fun v _ => some v) = some (.int .i64 (if n = 2 ∨ n = 3 then 1 else 0)) := by
  rw [slow_ev]
  by_cases h : n = 2
  · subst h; rfl
  · by_cases h3 : n = 3
    · subst h3; rfl
    · rw [ceq, ceq, if_neg h, if_neg h3, if_neg (by omega)]
theorem held_eq (n : Int) : evCall Try.prog [] 100 33 [.int .i64 n] [] (fun v _ => some v) = some (.bool (decide (4 ≤ n) && decide (n ≤ 7))) := by
  rw [held_ev, cdec]
  by_cases h : n ≥ 4
  · rw [if_pos h, decide_eq_true (show 4 ≤ n from h), Bool.true_and]
  · rw [if_neg h, decide_eq_false (show ¬ 4 ≤ n from h), Bool.false_and]
def slowN (n : Int) : Int := if n = 2 ∨ n = 3 then 1 else 0
def heldB (n : Int) : Bool := decide (4 ≤ n) && decide (n ≤ 7)
def sSlow : Summ Try.prog := mkPure [] hN hM 32 100 (fun args => match args with | [.int .i64 n] => some (true, .int .i64 (slowN n)) | _ => none) (by
  intro args v h
  split at h
  · simp only [Option.some.injEq, Prod.mk.injEq, true_and] at h; subst h; exact ⟨rfl, rfl, _, slow_eq _⟩
  · cases h)
def sHeld : Summ Try.prog := mkPure [] hN hM 33 100 (fun args => match args with | [.int .i64 n] => some (true, .bool (heldB n)) | _ => none) (by
  intro args v h
  split at h
  · simp only [Option.some.injEq, Prod.mk.injEq, true_and] at h; subst h; exact ⟨rfl, rfl, _, held_eq _⟩
  · cases h)
end Go.Proofs.Ytcmlhcabbnpibaa
