/-
  No cell of these rows narrows 'for every input' (looked for: loops, veiled, ifaces, maps, wideKeys, modest, calm, conditions, laid).
  DERIVED. THE GIVEN ROWS OF THIS SEAT. 5 by the template 'for every input the law returns true; each argument reads behind the call as it read before'; 0 by the template 'total and deterministic' (their statements: YtnemecmloeonjaaTotals.lean).
  GIVEN WITH THE SEED: the statements are not yours to turn. If you find one false, say at which input.
  Laid BY PROGRAM, IN A SANDBOX (cutbox-rows.mjs): the forced cells as the released guide's own fill.sh prints them over the translation 85827544661f2167… (all of the seat's roots in one cut). By AI agents, Wed Nov 11 2026. No macro, syntax, notation, axiom, sorry.
-/
import Derived.Test.YtnemecmloeonjaaChecked
import GoSem.Claim
import GoSem.ClaimJoined
import GoSem.ClaimMapViews
import Derived.JoinedTies
import Derived.KernelRfl
namespace Go.Proofs.Ytnemecmloeonjaa
/- THE CELL 'sum', in the pinned program and in every row, IS THE sha256 OF THE DUMP (.gsa) THAT YtnemecmloeonjaaProg.lean LOADS. Nothing in Lean hashes anything: it is a label: what it is worth is what the hold of that sum in a sandbox is worth. -/
noncomputable def Try.pinned : Pinned := { name := "ytnemecmloeonjaa", sum := "85827544661f21674c1de66668f008d0e02fdca1a5db4940fc1f6e867189e97c", checked := Try.checked }
namespace Rows
def none {H : Type} : Left H := { results := [], args := [] }

/-- 'phosphorlaw07.OpcodeBits': WHATEVER THE INPUT: true; the input reads as it did. -/
def opcodeBitsSpec : ChangeSpec := { name := "opcodeBits", fn := fun _ => fun
  | [d] => { results := [.lit (.bool true)], args := [d] }
  | _ => none }
def opcodeBitsRow : OpenClaim := { program := "ytnemecmloeonjaa", sum := "85827544661f21674c1de66668f008d0e02fdca1a5db4940fc1f6e867189e97c", func := "phosphor/phosphorlaw07.OpcodeBits", spec := "opcodeBits", apart := false }
def OpcodeBitsSaid : Prop := opcodeBitsRow.holds Try.pinned (OpenSpec.ofChange opcodeBitsSpec)

/-- ITS FALSE NEIGHBOUR: 'it returns false'. Refute it at one input. -/
def opcodeBitsWrong : ChangeSpec := { name := "opcodeBits", fn := fun _ => fun
  | [d] => { results := [.lit (.bool false)], args := [d] }
  | _ => none }
def OpcodeBitsWrongFalsely : Prop := opcodeBitsRow.holds Try.pinned (OpenSpec.ofChange opcodeBitsWrong)

/-- 'phosphorlaw07.OpcodeModes': WHATEVER THE INPUT: true; the input reads as it did. -/
def opcodeModesSpec : ChangeSpec := { name := "opcodeModes", fn := fun _ => fun
  | [d1, d2] => { results := [.lit (.bool true)], args := [d1, d2] }
  | _ => none }
def opcodeModesRow : OpenClaim := { program := "ytnemecmloeonjaa", sum := "85827544661f21674c1de66668f008d0e02fdca1a5db4940fc1f6e867189e97c", func := "phosphor/phosphorlaw07.OpcodeModes", spec := "opcodeModes", apart := false }
def OpcodeModesSaid : Prop := opcodeModesRow.holds Try.pinned (OpenSpec.ofChange opcodeModesSpec)

/-- ITS FALSE NEIGHBOUR: 'it returns false'. Refute it at one input. -/
def opcodeModesWrong : ChangeSpec := { name := "opcodeModes", fn := fun _ => fun
  | [d1, d2] => { results := [.lit (.bool false)], args := [d1, d2] }
  | _ => none }
def OpcodeModesWrongFalsely : Prop := opcodeModesRow.holds Try.pinned (OpenSpec.ofChange opcodeModesWrong)

/-- 'phosphorlaw07.OpcodeTells': WHATEVER THE INPUT: true; the input reads as it did. -/
def opcodeTellsSpec : ChangeSpec := { name := "opcodeTells", fn := fun _ => fun
  | [d1, d2] => { results := [.lit (.bool true)], args := [d1, d2] }
  | _ => none }
def opcodeTellsRow : OpenClaim := { program := "ytnemecmloeonjaa", sum := "85827544661f21674c1de66668f008d0e02fdca1a5db4940fc1f6e867189e97c", func := "phosphor/phosphorlaw07.OpcodeTells", spec := "opcodeTells", apart := false }
def OpcodeTellsSaid : Prop := opcodeTellsRow.holds Try.pinned (OpenSpec.ofChange opcodeTellsSpec)

/-- ITS FALSE NEIGHBOUR: 'it returns false'. Refute it at one input. -/
def opcodeTellsWrong : ChangeSpec := { name := "opcodeTells", fn := fun _ => fun
  | [d1, d2] => { results := [.lit (.bool false)], args := [d1, d2] }
  | _ => none }
def OpcodeTellsWrongFalsely : Prop := opcodeTellsRow.holds Try.pinned (OpenSpec.ofChange opcodeTellsWrong)

/-- 'phosphorlaw07.OpcodeAll': WHATEVER THE INPUT: true; the input reads as it did. -/
def opcodeAllSpec : ChangeSpec := { name := "opcodeAll", fn := fun _ => fun
  | [d] => { results := [.lit (.bool true)], args := [d] }
  | _ => none }
def opcodeAllRow : OpenClaim := { program := "ytnemecmloeonjaa", sum := "85827544661f21674c1de66668f008d0e02fdca1a5db4940fc1f6e867189e97c", func := "phosphor/phosphorlaw07.OpcodeAll", spec := "opcodeAll", apart := false }
def OpcodeAllSaid : Prop := opcodeAllRow.holds Try.pinned (OpenSpec.ofChange opcodeAllSpec)

/-- ITS FALSE NEIGHBOUR: 'it returns false'. Refute it at one input. -/
def opcodeAllWrong : ChangeSpec := { name := "opcodeAll", fn := fun _ => fun
  | [d] => { results := [.lit (.bool false)], args := [d] }
  | _ => none }
def OpcodeAllWrongFalsely : Prop := opcodeAllRow.holds Try.pinned (OpenSpec.ofChange opcodeAllWrong)

/-- 'phosphorlaw07.OpcodeReads': WHATEVER THE INPUT: true; the input reads as it did. -/
def opcodeReadsSpec : ChangeSpec := { name := "opcodeReads", fn := fun _ => fun
  | [d] => { results := [.lit (.bool true)], args := [d] }
  | _ => none }
def opcodeReadsRow : OpenClaim := { program := "ytnemecmloeonjaa", sum := "85827544661f21674c1de66668f008d0e02fdca1a5db4940fc1f6e867189e97c", func := "phosphor/phosphorlaw07.OpcodeReads", spec := "opcodeReads", apart := false }
def OpcodeReadsSaid : Prop := opcodeReadsRow.holds Try.pinned (OpenSpec.ofChange opcodeReadsSpec)

/-- ITS FALSE NEIGHBOUR: 'it returns false'. Refute it at one input. -/
def opcodeReadsWrong : ChangeSpec := { name := "opcodeReads", fn := fun _ => fun
  | [d] => { results := [.lit (.bool false)], args := [d] }
  | _ => none }
def OpcodeReadsWrongFalsely : Prop := opcodeReadsRow.holds Try.pinned (OpenSpec.ofChange opcodeReadsWrong)

/- THE SECOND FORM. 'bulk': how many values and letters a reading holds, each counted each time it is reached (what is shared counts as often as it is met; a slice's spare places count too). A statement '..UptoSaid' is the law's where the arguments, and the package variables that the reading takes, are together of bulk at most 1048576: NARROWER than '..Said'. Prove '..Said' where nothing that the law and all that it calls make is longer than what came in: it says more and counts as full. Else prove '..UptoSaid'. A law counts once. -/
mutual
def uptoBulk {H : Type} : DataW H → Nat
  | .lit (.string bytes) => bytes.length + 1
  | .lit _ => 1
  | .nil => 1
  | .ptr d => uptoBulk d + 1
  | .slice elems spare => uptoBulkAll elems + uptoBulkAll spare + 1
  | .agg parts => uptoBulkAll parts + 1
  | .iface _ d => uptoBulk d + 1
  | .map entries => uptoBulkEntries entries + 1
  | .held _ => 1
def uptoBulkAll {H : Type} : List (DataW H) → Nat
  | [] => 0
  | d :: r => uptoBulk d + uptoBulkAll r
def uptoBulkEntries {H : Type} : List (Lit × DataW H) → Nat
  | [] => 0
  | x :: r => uptoBulkEntry x + uptoBulkEntries r
def uptoBulkEntry {H : Type} : Lit × DataW H → Nat
  | (.string bytes, d) => bytes.length + uptoBulk d + 1
  | (_, d) => uptoBulk d + 1
 end
def uptoSmall : (H : Type) → List (DataW H) → Bool := fun _ ds => decide (uptoBulkAll ds ≤ 1048576)
def OpenSpec.upto (s : _root_.Go.ChangeSpec) : _root_.Go.OpenSpec := { _root_.Go.OpenSpec.ofChange s with cond := some uptoSmall }

/-- 'phosphorlaw07.OpcodeBits', WHERE WHAT IT READS IS OF BULK AT MOST 1048576: true; the input reads as it did. -/
def opcodeBitsUptoRow : OpenClaim := { program := "ytnemecmloeonjaa", sum := "85827544661f21674c1de66668f008d0e02fdca1a5db4940fc1f6e867189e97c", func := "phosphor/phosphorlaw07.OpcodeBits", spec := "opcodeBits", apart := false, narrowed := true }
def OpcodeBitsUptoSaid : Prop := opcodeBitsUptoRow.holds Try.pinned (OpenSpec.upto opcodeBitsSpec)

/-- 'phosphorlaw07.OpcodeModes', WHERE WHAT IT READS IS OF BULK AT MOST 1048576: true; the input reads as it did. -/
def opcodeModesUptoRow : OpenClaim := { program := "ytnemecmloeonjaa", sum := "85827544661f21674c1de66668f008d0e02fdca1a5db4940fc1f6e867189e97c", func := "phosphor/phosphorlaw07.OpcodeModes", spec := "opcodeModes", apart := false, narrowed := true }
def OpcodeModesUptoSaid : Prop := opcodeModesUptoRow.holds Try.pinned (OpenSpec.upto opcodeModesSpec)

/-- 'phosphorlaw07.OpcodeTells', WHERE WHAT IT READS IS OF BULK AT MOST 1048576: true; the input reads as it did. -/
def opcodeTellsUptoRow : OpenClaim := { program := "ytnemecmloeonjaa", sum := "85827544661f21674c1de66668f008d0e02fdca1a5db4940fc1f6e867189e97c", func := "phosphor/phosphorlaw07.OpcodeTells", spec := "opcodeTells", apart := false, narrowed := true }
def OpcodeTellsUptoSaid : Prop := opcodeTellsUptoRow.holds Try.pinned (OpenSpec.upto opcodeTellsSpec)

/-- 'phosphorlaw07.OpcodeAll', WHERE WHAT IT READS IS OF BULK AT MOST 1048576: true; the input reads as it did. -/
def opcodeAllUptoRow : OpenClaim := { program := "ytnemecmloeonjaa", sum := "85827544661f21674c1de66668f008d0e02fdca1a5db4940fc1f6e867189e97c", func := "phosphor/phosphorlaw07.OpcodeAll", spec := "opcodeAll", apart := false, narrowed := true }
def OpcodeAllUptoSaid : Prop := opcodeAllUptoRow.holds Try.pinned (OpenSpec.upto opcodeAllSpec)

/-- 'phosphorlaw07.OpcodeReads', WHERE WHAT IT READS IS OF BULK AT MOST 1048576: true; the input reads as it did. -/
def opcodeReadsUptoRow : OpenClaim := { program := "ytnemecmloeonjaa", sum := "85827544661f21674c1de66668f008d0e02fdca1a5db4940fc1f6e867189e97c", func := "phosphor/phosphorlaw07.OpcodeReads", spec := "opcodeReads", apart := false, narrowed := true }
def OpcodeReadsUptoSaid : Prop := opcodeReadsUptoRow.holds Try.pinned (OpenSpec.upto opcodeReadsSpec)

end Rows
end Go.Proofs.Ytnemecmloeonjaa
