/-
  No cell of these rows narrows 'for every input' (looked for: loops, veiled, ifaces, maps, wideKeys, modest, calm, conditions, laid).
  DERIVED. THE GIVEN ROWS OF THIS SEAT. 8 by the template 'for every input the law returns true; each argument reads behind the call as it read before'; 0 by the template 'total and deterministic' (their statements: YtecbemlfhmepfaaTotals.lean).
  GIVEN WITH THE SEED: the statements are not yours to turn. If you find one false, say at which input.
  Laid BY PROGRAM, IN A SANDBOX (cutbox-rows.mjs): the forced cells as the released guide's own fill.sh prints them over the translation 8cf8921f47989c46… (all of the seat's roots in one cut). By AI agents, Wed Nov 11 2026. No macro, syntax, notation, axiom, sorry.
-/
import Derived.Test.YtecbemlfhmepfaaChecked
import GoSem.Claim
import GoSem.ClaimJoined
import GoSem.ClaimMapViews
import Derived.JoinedTies
import Derived.KernelRfl
namespace Go.Proofs.Ytecbemlfhmepfaa
/- THE CELL 'sum', in the pinned program and in every row, IS THE sha256 OF THE DUMP (.gsa) THAT YtecbemlfhmepfaaProg.lean LOADS. Nothing in Lean hashes anything: it is a label: what it is worth is what the hold of that sum in a sandbox is worth. -/
noncomputable def Try.pinned : Pinned := { name := "ytecbemlfhmepfaa", sum := "8cf8921f47989c463805abc7fcd6d5d4a4fd3e271a57ae6ae8e7d3872e00d27b", checked := Try.checked }
namespace Rows
def none {H : Type} : Left H := { results := [], args := [] }

/-- 'phosphorlaw02.AluDoes': WHATEVER THE INPUT: true; the input reads as it did. -/
def aluDoesSpec : ChangeSpec := { name := "aluDoes", fn := fun _ => fun
  | [d1, d2, d3] => { results := [.lit (.bool true)], args := [d1, d2, d3] }
  | _ => none }
def aluDoesRow : OpenClaim := { program := "ytecbemlfhmepfaa", sum := "8cf8921f47989c463805abc7fcd6d5d4a4fd3e271a57ae6ae8e7d3872e00d27b", func := "phosphor/phosphorlaw02.AluDoes", spec := "aluDoes", unfollowed := true, recurses := true, apart := false }
def AluDoesSaid : Prop := aluDoesRow.holds Try.pinned (OpenSpec.ofChange aluDoesSpec)

/-- ITS FALSE NEIGHBOUR: 'it returns false'. Refute it at one input. -/
def aluDoesWrong : ChangeSpec := { name := "aluDoes", fn := fun _ => fun
  | [d1, d2, d3] => { results := [.lit (.bool false)], args := [d1, d2, d3] }
  | _ => none }
def AluDoesWrongFalsely : Prop := aluDoesRow.holds Try.pinned (OpenSpec.ofChange aluDoesWrong)

/-- 'phosphorlaw02.AluAll': WHATEVER THE INPUT: true; the input reads as it did. -/
def aluAllSpec : ChangeSpec := { name := "aluAll", fn := fun _ => fun
  | [d1, d2, d3] => { results := [.lit (.bool true)], args := [d1, d2, d3] }
  | _ => none }
def aluAllRow : OpenClaim := { program := "ytecbemlfhmepfaa", sum := "8cf8921f47989c463805abc7fcd6d5d4a4fd3e271a57ae6ae8e7d3872e00d27b", func := "phosphor/phosphorlaw02.AluAll", spec := "aluAll", unfollowed := true, recurses := true, apart := false }
def AluAllSaid : Prop := aluAllRow.holds Try.pinned (OpenSpec.ofChange aluAllSpec)

/-- ITS FALSE NEIGHBOUR: 'it returns false'. Refute it at one input. -/
def aluAllWrong : ChangeSpec := { name := "aluAll", fn := fun _ => fun
  | [d1, d2, d3] => { results := [.lit (.bool false)], args := [d1, d2, d3] }
  | _ => none }
def AluAllWrongFalsely : Prop := aluAllRow.holds Try.pinned (OpenSpec.ofChange aluAllWrong)

/-- 'phosphorlaw02.AluBack': WHATEVER THE INPUT: true; the input reads as it did. -/
def aluBackSpec : ChangeSpec := { name := "aluBack", fn := fun _ => fun
  | [d1, d2, d3] => { results := [.lit (.bool true)], args := [d1, d2, d3] }
  | _ => none }
def aluBackRow : OpenClaim := { program := "ytecbemlfhmepfaa", sum := "8cf8921f47989c463805abc7fcd6d5d4a4fd3e271a57ae6ae8e7d3872e00d27b", func := "phosphor/phosphorlaw02.AluBack", spec := "aluBack", unfollowed := true, recurses := true, apart := false }
def AluBackSaid : Prop := aluBackRow.holds Try.pinned (OpenSpec.ofChange aluBackSpec)

/-- ITS FALSE NEIGHBOUR: 'it returns false'. Refute it at one input. -/
def aluBackWrong : ChangeSpec := { name := "aluBack", fn := fun _ => fun
  | [d1, d2, d3] => { results := [.lit (.bool false)], args := [d1, d2, d3] }
  | _ => none }
def AluBackWrongFalsely : Prop := aluBackRow.holds Try.pinned (OpenSpec.ofChange aluBackWrong)

/-- 'phosphorlaw02.AluTurns': WHATEVER THE INPUT: true; the input reads as it did. -/
def aluTurnsSpec : ChangeSpec := { name := "aluTurns", fn := fun _ => fun
  | [d1, d2] => { results := [.lit (.bool true)], args := [d1, d2] }
  | _ => none }
def aluTurnsRow : OpenClaim := { program := "ytecbemlfhmepfaa", sum := "8cf8921f47989c463805abc7fcd6d5d4a4fd3e271a57ae6ae8e7d3872e00d27b", func := "phosphor/phosphorlaw02.AluTurns", spec := "aluTurns", unfollowed := true, recurses := true, apart := false }
def AluTurnsSaid : Prop := aluTurnsRow.holds Try.pinned (OpenSpec.ofChange aluTurnsSpec)

/-- ITS FALSE NEIGHBOUR: 'it returns false'. Refute it at one input. -/
def aluTurnsWrong : ChangeSpec := { name := "aluTurns", fn := fun _ => fun
  | [d1, d2] => { results := [.lit (.bool false)], args := [d1, d2] }
  | _ => none }
def AluTurnsWrongFalsely : Prop := aluTurnsRow.holds Try.pinned (OpenSpec.ofChange aluTurnsWrong)

/-- 'phosphorlaw02.AluAsks': WHATEVER THE INPUT: true; the input reads as it did. -/
def aluAsksSpec : ChangeSpec := { name := "aluAsks", fn := fun _ => fun
  | [d1, d2, d3] => { results := [.lit (.bool true)], args := [d1, d2, d3] }
  | _ => none }
def aluAsksRow : OpenClaim := { program := "ytecbemlfhmepfaa", sum := "8cf8921f47989c463805abc7fcd6d5d4a4fd3e271a57ae6ae8e7d3872e00d27b", func := "phosphor/phosphorlaw02.AluAsks", spec := "aluAsks", unfollowed := true, recurses := true, apart := false }
def AluAsksSaid : Prop := aluAsksRow.holds Try.pinned (OpenSpec.ofChange aluAsksSpec)

/-- ITS FALSE NEIGHBOUR: 'it returns false'. Refute it at one input. -/
def aluAsksWrong : ChangeSpec := { name := "aluAsks", fn := fun _ => fun
  | [d1, d2, d3] => { results := [.lit (.bool false)], args := [d1, d2, d3] }
  | _ => none }
def AluAsksWrongFalsely : Prop := aluAsksRow.holds Try.pinned (OpenSpec.ofChange aluAsksWrong)

/-- 'phosphorlaw02.AluLogic': WHATEVER THE INPUT: true; the input reads as it did. -/
def aluLogicSpec : ChangeSpec := { name := "aluLogic", fn := fun _ => fun
  | [d1, d2, d3] => { results := [.lit (.bool true)], args := [d1, d2, d3] }
  | _ => none }
def aluLogicRow : OpenClaim := { program := "ytecbemlfhmepfaa", sum := "8cf8921f47989c463805abc7fcd6d5d4a4fd3e271a57ae6ae8e7d3872e00d27b", func := "phosphor/phosphorlaw02.AluLogic", spec := "aluLogic", unfollowed := true, recurses := true, apart := false }
def AluLogicSaid : Prop := aluLogicRow.holds Try.pinned (OpenSpec.ofChange aluLogicSpec)

/-- ITS FALSE NEIGHBOUR: 'it returns false'. Refute it at one input. -/
def aluLogicWrong : ChangeSpec := { name := "aluLogic", fn := fun _ => fun
  | [d1, d2, d3] => { results := [.lit (.bool false)], args := [d1, d2, d3] }
  | _ => none }
def AluLogicWrongFalsely : Prop := aluLogicRow.holds Try.pinned (OpenSpec.ofChange aluLogicWrong)

/-- 'phosphorlaw02.AluLoads': WHATEVER THE INPUT: true; the input reads as it did. -/
def aluLoadsSpec : ChangeSpec := { name := "aluLoads", fn := fun _ => fun
  | [d1, d2] => { results := [.lit (.bool true)], args := [d1, d2] }
  | _ => none }
def aluLoadsRow : OpenClaim := { program := "ytecbemlfhmepfaa", sum := "8cf8921f47989c463805abc7fcd6d5d4a4fd3e271a57ae6ae8e7d3872e00d27b", func := "phosphor/phosphorlaw02.AluLoads", spec := "aluLoads", unfollowed := true, recurses := true, apart := false }
def AluLoadsSaid : Prop := aluLoadsRow.holds Try.pinned (OpenSpec.ofChange aluLoadsSpec)

/-- ITS FALSE NEIGHBOUR: 'it returns false'. Refute it at one input. -/
def aluLoadsWrong : ChangeSpec := { name := "aluLoads", fn := fun _ => fun
  | [d1, d2] => { results := [.lit (.bool false)], args := [d1, d2] }
  | _ => none }
def AluLoadsWrongFalsely : Prop := aluLoadsRow.holds Try.pinned (OpenSpec.ofChange aluLoadsWrong)

/-- 'phosphorlaw02.AluShifts': WHATEVER THE INPUT: true; the input reads as it did. -/
def aluShiftsSpec : ChangeSpec := { name := "aluShifts", fn := fun _ => fun
  | [d] => { results := [.lit (.bool true)], args := [d] }
  | _ => none }
def aluShiftsRow : OpenClaim := { program := "ytecbemlfhmepfaa", sum := "8cf8921f47989c463805abc7fcd6d5d4a4fd3e271a57ae6ae8e7d3872e00d27b", func := "phosphor/phosphorlaw02.AluShifts", spec := "aluShifts", unfollowed := true, recurses := true, apart := false }
def AluShiftsSaid : Prop := aluShiftsRow.holds Try.pinned (OpenSpec.ofChange aluShiftsSpec)

/-- ITS FALSE NEIGHBOUR: 'it returns false'. Refute it at one input. -/
def aluShiftsWrong : ChangeSpec := { name := "aluShifts", fn := fun _ => fun
  | [d] => { results := [.lit (.bool false)], args := [d] }
  | _ => none }
def AluShiftsWrongFalsely : Prop := aluShiftsRow.holds Try.pinned (OpenSpec.ofChange aluShiftsWrong)

/- THE SECOND FORM. 'bulk': how many values and letters a reading holds, each counted each time it is reached (what is shared counts as often as it is met; a slice's spare places count too). A statement '..UptoSaid' is the law's where the arguments, and the package variables that the reading takes, are together of bulk at most 1048576: NARROWER than '..Said'. Prove '..Said' where nothing that the law and all that it calls make is longer than what came in: it says more and counts as full. Else prove '..UptoSaid'. A law counts once. -/
mutual
def uptoBulk {H : Type} : DataW H → Nat
  | .lit (.string bytes) => bytes.length + 1
  | .lit _ => 1
  | .nil => 1
  | .ptr d => uptoBulk d + 1
  | .slice elems spare => uptoBulkAll elems + uptoBulkAll spare + 1
  | .agg parts => uptoBulkAll parts + 1
  | .iface _ d => uptoBulk d + 1
  | .map entries => uptoBulkEntries entries + 1
  | .held _ => 1
def uptoBulkAll {H : Type} : List (DataW H) → Nat
  | [] => 0
  | d :: r => uptoBulk d + uptoBulkAll r
def uptoBulkEntries {H : Type} : List (Lit × DataW H) → Nat
  | [] => 0
  | x :: r => uptoBulkEntry x + uptoBulkEntries r
def uptoBulkEntry {H : Type} : Lit × DataW H → Nat
  | (.string bytes, d) => bytes.length + uptoBulk d + 1
  | (_, d) => uptoBulk d + 1
 end
def uptoSmall : (H : Type) → List (DataW H) → Bool := fun _ ds => decide (uptoBulkAll ds ≤ 1048576)
def OpenSpec.upto (s : _root_.Go.ChangeSpec) : _root_.Go.OpenSpec := { _root_.Go.OpenSpec.ofChange s with cond := some uptoSmall }

/-- 'phosphorlaw02.AluDoes', WHERE WHAT IT READS IS OF BULK AT MOST 1048576: true; the input reads as it did. -/
def aluDoesUptoRow : OpenClaim := { program := "ytecbemlfhmepfaa", sum := "8cf8921f47989c463805abc7fcd6d5d4a4fd3e271a57ae6ae8e7d3872e00d27b", func := "phosphor/phosphorlaw02.AluDoes", spec := "aluDoes", unfollowed := true, recurses := true, apart := false, narrowed := true }
def AluDoesUptoSaid : Prop := aluDoesUptoRow.holds Try.pinned (OpenSpec.upto aluDoesSpec)

/-- 'phosphorlaw02.AluAll', WHERE WHAT IT READS IS OF BULK AT MOST 1048576: true; the input reads as it did. -/
def aluAllUptoRow : OpenClaim := { program := "ytecbemlfhmepfaa", sum := "8cf8921f47989c463805abc7fcd6d5d4a4fd3e271a57ae6ae8e7d3872e00d27b", func := "phosphor/phosphorlaw02.AluAll", spec := "aluAll", unfollowed := true, recurses := true, apart := false, narrowed := true }
def AluAllUptoSaid : Prop := aluAllUptoRow.holds Try.pinned (OpenSpec.upto aluAllSpec)

/-- 'phosphorlaw02.AluBack', WHERE WHAT IT READS IS OF BULK AT MOST 1048576: true; the input reads as it did. -/
def aluBackUptoRow : OpenClaim := { program := "ytecbemlfhmepfaa", sum := "8cf8921f47989c463805abc7fcd6d5d4a4fd3e271a57ae6ae8e7d3872e00d27b", func := "phosphor/phosphorlaw02.AluBack", spec := "aluBack", unfollowed := true, recurses := true, apart := false, narrowed := true }
def AluBackUptoSaid : Prop := aluBackUptoRow.holds Try.pinned (OpenSpec.upto aluBackSpec)

/-- 'phosphorlaw02.AluTurns', WHERE WHAT IT READS IS OF BULK AT MOST 1048576: true; the input reads as it did. -/
def aluTurnsUptoRow : OpenClaim := { program := "ytecbemlfhmepfaa", sum := "8cf8921f47989c463805abc7fcd6d5d4a4fd3e271a57ae6ae8e7d3872e00d27b", func := "phosphor/phosphorlaw02.AluTurns", spec := "aluTurns", unfollowed := true, recurses := true, apart := false, narrowed := true }
def AluTurnsUptoSaid : Prop := aluTurnsUptoRow.holds Try.pinned (OpenSpec.upto aluTurnsSpec)

/-- 'phosphorlaw02.AluAsks', WHERE WHAT IT READS IS OF BULK AT MOST 1048576: true; the input reads as it did. -/
def aluAsksUptoRow : OpenClaim := { program := "ytecbemlfhmepfaa", sum := "8cf8921f47989c463805abc7fcd6d5d4a4fd3e271a57ae6ae8e7d3872e00d27b", func := "phosphor/phosphorlaw02.AluAsks", spec := "aluAsks", unfollowed := true, recurses := true, apart := false, narrowed := true }
def AluAsksUptoSaid : Prop := aluAsksUptoRow.holds Try.pinned (OpenSpec.upto aluAsksSpec)

/-- 'phosphorlaw02.AluLogic', WHERE WHAT IT READS IS OF BULK AT MOST 1048576: true; the input reads as it did. -/
def aluLogicUptoRow : OpenClaim := { program := "ytecbemlfhmepfaa", sum := "8cf8921f47989c463805abc7fcd6d5d4a4fd3e271a57ae6ae8e7d3872e00d27b", func := "phosphor/phosphorlaw02.AluLogic", spec := "aluLogic", unfollowed := true, recurses := true, apart := false, narrowed := true }
def AluLogicUptoSaid : Prop := aluLogicUptoRow.holds Try.pinned (OpenSpec.upto aluLogicSpec)

/-- 'phosphorlaw02.AluLoads', WHERE WHAT IT READS IS OF BULK AT MOST 1048576: true; the input reads as it did. -/
def aluLoadsUptoRow : OpenClaim := { program := "ytecbemlfhmepfaa", sum := "8cf8921f47989c463805abc7fcd6d5d4a4fd3e271a57ae6ae8e7d3872e00d27b", func := "phosphor/phosphorlaw02.AluLoads", spec := "aluLoads", unfollowed := true, recurses := true, apart := false, narrowed := true }
def AluLoadsUptoSaid : Prop := aluLoadsUptoRow.holds Try.pinned (OpenSpec.upto aluLoadsSpec)

/-- 'phosphorlaw02.AluShifts', WHERE WHAT IT READS IS OF BULK AT MOST 1048576: true; the input reads as it did. -/
def aluShiftsUptoRow : OpenClaim := { program := "ytecbemlfhmepfaa", sum := "8cf8921f47989c463805abc7fcd6d5d4a4fd3e271a57ae6ae8e7d3872e00d27b", func := "phosphor/phosphorlaw02.AluShifts", spec := "aluShifts", unfollowed := true, recurses := true, apart := false, narrowed := true }
def AluShiftsUptoSaid : Prop := aluShiftsUptoRow.holds Try.pinned (OpenSpec.upto aluShiftsSpec)

end Rows
end Go.Proofs.Ytecbemlfhmepfaa
