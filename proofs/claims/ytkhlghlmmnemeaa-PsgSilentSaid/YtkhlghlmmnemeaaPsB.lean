import Derived.Test.YtkhlghlmmnemeaaPsA
set_option linter.unusedVariables false
set_option linter.unusedSimpArgs false
namespace Go.Proofs.Ytkhlghlmmnemeaa
open Go Go.R
/-- a number from 0 to a bound -/
def inB (n m : Int) : Bool := !decide (n < 0) && !decide (n > m)
theorem chain {a : Bool} {x : Option V} {b : Bool} (h : x = some (.bool b)) : cond a (some (V.bool false)) x = some (.bool (!a && b)) := by
  cases a
  · exact h
  · rfl
/-- the bounds of a channel's cells, in the code's order -/
def chOrd : List (Nat × Int) := [(0, 4095), (1, 255), (2, 255), (3, 255), (36, 31), (39, 31)] ++ (List.range 32).map (fun i => (4 + i, (31 : Int))) ++ [(37, 16777215), (38, 262143)]
def cellsB (f : Nat → Int) : List (Nat × Int) → Bool → Bool
  | [], b => b
  | (j, m) :: r, b => !decide (f j < 0) && (!decide (f j > m) && cellsB f r b)
theorem cells_chain (f : Nat → Int) (j : Nat) (m : Int) {x : Option V} {r : List (Nat × Int)} {b : Bool} (h : x = some (.bool (cellsB f r b))) :
    cond (decide (f j < 0)) (some (V.bool false)) (cond (decide (f j > m)) (some (V.bool false)) x) = some (.bool (cellsB f ((j, m) :: r) b)) := chain (chain h)
def chB (f : Nat → Int) : Bool := cellsB f chOrd (f 38 != 0)
theorem chan_eq (f : Nat → Int) : evCall Try.prog [] 300 32 [.aggi .i64 40 f] [] (fun v _ => some v) = some (.bool (chB f)) := by
  rw [chan_ev]
  unfold chB
  iterate 40 refine cells_chain f _ _ ?_
  rfl
def sChan : Summ Try.prog := mkPure [] hN hM 32 300 (fun args => match args with | [.aggi .i64 40 f] => some (true, .bool (chB f)) | _ => none) (by
  intro args v h; split at h
  · simp only [Option.some.injEq, Prod.mk.injEq, true_and] at h; subst h; exact ⟨rfl, rfl, _, chan_eq _⟩
  · cases h)
def sIn : Summ Try.prog := mkPure [] hN hM 33 300 (fun args => match args with | [.int .i64 n, .int .i64 m] => some (true, .bool (inB n m)) | _ => none) (by
  intro args v h; split at h
  · simp only [Option.some.injEq, Prod.mk.injEq, true_and] at h; subst h
    refine ⟨rfl, rfl, _, (rin_ev _ _).trans ?_⟩
    rename_i n m
    unfold inB
    by_cases h : n < 0
    · rw [decide_eq_false (show ¬ n ≥ 0 by omega), decide_eq_true h]; rfl
    · rw [decide_eq_true (show n ≥ 0 by omega), decide_eq_false h]
      by_cases h2 : n ≤ m
      · rw [decide_eq_true h2, decide_eq_false (show ¬ n > m by omega)]; rfl
      · rw [decide_eq_false h2, decide_eq_true (show n > m by omega)]; rfl
  · cases h)
end Go.Proofs.Ytkhlghlmmnemeaa
