/-
  No cell of these rows narrows 'for every input' (looked for: loops, veiled, ifaces, maps, wideKeys, modest, calm, conditions, laid).
  DERIVED. THE GIVEN ROWS OF THIS SEAT. 12 by the template 'for every input the law returns true; each argument reads behind the call as it read before'; 0 by the template 'total and deterministic' (their statements: YtcmlhcabbnpibaaTotals.lean).
  GIVEN WITH THE SEED: the statements are not yours to turn. If you find one false, say at which input.
  Laid BY PROGRAM, IN A SANDBOX (cutbox-rows.mjs): the forced cells as the released guide's own fill.sh prints them over the translation a164e984ee59043a… (all of the seat's roots in one cut). By AI agents, Wed Nov 11 2026. No macro, syntax, notation, axiom, sorry.
-/
import Derived.Test.YtcmlhcabbnpibaaChecked
import GoSem.Claim
import GoSem.ClaimJoined
import GoSem.ClaimMapViews
import Derived.JoinedTies
import Derived.KernelRfl
namespace Go.Proofs.Ytcmlhcabbnpibaa
/- THE CELL 'sum', in the pinned program and in every row, IS THE sha256 OF THE DUMP (.gsa) THAT YtcmlhcabbnpibaaProg.lean LOADS. Nothing in Lean hashes anything: it is a label: what it is worth is what the hold of that sum in a sandbox is worth. -/
noncomputable def Try.pinned : Pinned := { name := "ytcmlhcabbnpibaa", sum := "a164e984ee59043a2898f1382dc33024e7e72489d06619820983c7197ceab5ef", checked := Try.checked }
namespace Rows
def none {H : Type} : Left H := { results := [], args := [] }

/-- 'phosphorlaw21.NoisePeriods': WHATEVER THE INPUT: true; the input reads as it did. -/
def noisePeriodsSpec : ChangeSpec := { name := "noisePeriods", fn := fun _ => fun
  | [d] => { results := [.lit (.bool true)], args := [d] }
  | _ => none }
def noisePeriodsRow : OpenClaim := { program := "ytcmlhcabbnpibaa", sum := "a164e984ee59043a2898f1382dc33024e7e72489d06619820983c7197ceab5ef", func := "phosphor/phosphorlaw21.NoisePeriods", spec := "noisePeriods", apart := false }
def NoisePeriodsSaid : Prop := noisePeriodsRow.holds Try.pinned (OpenSpec.ofChange noisePeriodsSpec)

/-- ITS FALSE NEIGHBOUR: 'it returns false'. Refute it at one input. -/
def noisePeriodsWrong : ChangeSpec := { name := "noisePeriods", fn := fun _ => fun
  | [d] => { results := [.lit (.bool false)], args := [d] }
  | _ => none }
def NoisePeriodsWrongFalsely : Prop := noisePeriodsRow.holds Try.pinned (OpenSpec.ofChange noisePeriodsWrong)

/-- 'phosphorlaw21.NoiseApart': WHATEVER THE INPUT: true; the input reads as it did. -/
def noiseApartSpec : ChangeSpec := { name := "noiseApart", fn := fun _ => fun
  | [d1, d2] => { results := [.lit (.bool true)], args := [d1, d2] }
  | _ => none }
def noiseApartRow : OpenClaim := { program := "ytcmlhcabbnpibaa", sum := "a164e984ee59043a2898f1382dc33024e7e72489d06619820983c7197ceab5ef", func := "phosphor/phosphorlaw21.NoiseApart", spec := "noiseApart", apart := false }
def NoiseApartSaid : Prop := noiseApartRow.holds Try.pinned (OpenSpec.ofChange noiseApartSpec)

/-- ITS FALSE NEIGHBOUR: 'it returns false'. Refute it at one input. -/
def noiseApartWrong : ChangeSpec := { name := "noiseApart", fn := fun _ => fun
  | [d1, d2] => { results := [.lit (.bool false)], args := [d1, d2] }
  | _ => none }
def NoiseApartWrongFalsely : Prop := noiseApartRow.holds Try.pinned (OpenSpec.ofChange noiseApartWrong)

/-- 'phosphorlaw21.NoiseParts': WHATEVER THE INPUT: true; the input reads as it did. -/
def noisePartsSpec : ChangeSpec := { name := "noiseParts", fn := fun _ => fun
  | [d1, d2, d3] => { results := [.lit (.bool true)], args := [d1, d2, d3] }
  | _ => none }
def noisePartsRow : OpenClaim := { program := "ytcmlhcabbnpibaa", sum := "a164e984ee59043a2898f1382dc33024e7e72489d06619820983c7197ceab5ef", func := "phosphor/phosphorlaw21.NoiseParts", spec := "noiseParts", apart := false }
def NoisePartsSaid : Prop := noisePartsRow.holds Try.pinned (OpenSpec.ofChange noisePartsSpec)

/-- ITS FALSE NEIGHBOUR: 'it returns false'. Refute it at one input. -/
def noisePartsWrong : ChangeSpec := { name := "noiseParts", fn := fun _ => fun
  | [d1, d2, d3] => { results := [.lit (.bool false)], args := [d1, d2, d3] }
  | _ => none }
def NoisePartsWrongFalsely : Prop := noisePartsRow.holds Try.pinned (OpenSpec.ofChange noisePartsWrong)

/-- 'phosphorlaw21.NoiseTells': WHATEVER THE INPUT: true; the input reads as it did. -/
def noiseTellsSpec : ChangeSpec := { name := "noiseTells", fn := fun _ => fun
  | [d1, d2, d3] => { results := [.lit (.bool true)], args := [d1, d2, d3] }
  | _ => none }
def noiseTellsRow : OpenClaim := { program := "ytcmlhcabbnpibaa", sum := "a164e984ee59043a2898f1382dc33024e7e72489d06619820983c7197ceab5ef", func := "phosphor/phosphorlaw21.NoiseTells", spec := "noiseTells", apart := false }
def NoiseTellsSaid : Prop := noiseTellsRow.holds Try.pinned (OpenSpec.ofChange noiseTellsSpec)

/-- ITS FALSE NEIGHBOUR: 'it returns false'. Refute it at one input. -/
def noiseTellsWrong : ChangeSpec := { name := "noiseTells", fn := fun _ => fun
  | [d1, d2, d3] => { results := [.lit (.bool false)], args := [d1, d2, d3] }
  | _ => none }
def NoiseTellsWrongFalsely : Prop := noiseTellsRow.holds Try.pinned (OpenSpec.ofChange noiseTellsWrong)

/-- 'phosphorlaw11.IrqFirst': WHATEVER THE INPUT: true; the input reads as it did. -/
def irqFirstSpec : ChangeSpec := { name := "irqFirst", fn := fun _ => fun
  | [d1, d2] => { results := [.lit (.bool true)], args := [d1, d2] }
  | _ => none }
def irqFirstRow : OpenClaim := { program := "ytcmlhcabbnpibaa", sum := "a164e984ee59043a2898f1382dc33024e7e72489d06619820983c7197ceab5ef", func := "phosphor/phosphorlaw11.IrqFirst", spec := "irqFirst", unfollowed := true, recurses := true, apart := false }
def IrqFirstSaid : Prop := irqFirstRow.holds Try.pinned (OpenSpec.ofChange irqFirstSpec)

/-- ITS FALSE NEIGHBOUR: 'it returns false'. Refute it at one input. -/
def irqFirstWrong : ChangeSpec := { name := "irqFirst", fn := fun _ => fun
  | [d1, d2] => { results := [.lit (.bool false)], args := [d1, d2] }
  | _ => none }
def IrqFirstWrongFalsely : Prop := irqFirstRow.holds Try.pinned (OpenSpec.ofChange irqFirstWrong)

/-- 'phosphorlaw11.IrqMore': WHATEVER THE INPUT: true; the input reads as it did. -/
def irqMoreSpec : ChangeSpec := { name := "irqMore", fn := fun _ => fun
  | [d1, d2, d3] => { results := [.lit (.bool true)], args := [d1, d2, d3] }
  | _ => none }
def irqMoreRow : OpenClaim := { program := "ytcmlhcabbnpibaa", sum := "a164e984ee59043a2898f1382dc33024e7e72489d06619820983c7197ceab5ef", func := "phosphor/phosphorlaw11.IrqMore", spec := "irqMore", unfollowed := true, recurses := true, apart := false }
def IrqMoreSaid : Prop := irqMoreRow.holds Try.pinned (OpenSpec.ofChange irqMoreSpec)

/-- ITS FALSE NEIGHBOUR: 'it returns false'. Refute it at one input. -/
def irqMoreWrong : ChangeSpec := { name := "irqMore", fn := fun _ => fun
  | [d1, d2, d3] => { results := [.lit (.bool false)], args := [d1, d2, d3] }
  | _ => none }
def IrqMoreWrongFalsely : Prop := irqMoreRow.holds Try.pinned (OpenSpec.ofChange irqMoreWrong)

/-- 'phosphorlaw11.IrqClears': WHATEVER THE INPUT: true; the input reads as it did. -/
def irqClearsSpec : ChangeSpec := { name := "irqClears", fn := fun _ => fun
  | [d1, d2] => { results := [.lit (.bool true)], args := [d1, d2] }
  | _ => none }
def irqClearsRow : OpenClaim := { program := "ytcmlhcabbnpibaa", sum := "a164e984ee59043a2898f1382dc33024e7e72489d06619820983c7197ceab5ef", func := "phosphor/phosphorlaw11.IrqClears", spec := "irqClears", apart := false }
def IrqClearsSaid : Prop := irqClearsRow.holds Try.pinned (OpenSpec.ofChange irqClearsSpec)

/-- ITS FALSE NEIGHBOUR: 'it returns false'. Refute it at one input. -/
def irqClearsWrong : ChangeSpec := { name := "irqClears", fn := fun _ => fun
  | [d1, d2] => { results := [.lit (.bool false)], args := [d1, d2] }
  | _ => none }
def IrqClearsWrongFalsely : Prop := irqClearsRow.holds Try.pinned (OpenSpec.ofChange irqClearsWrong)

/-- 'phosphorlaw11.IrqTells': WHATEVER THE INPUT: true; the input reads as it did. -/
def irqTellsSpec : ChangeSpec := { name := "irqTells", fn := fun _ => fun
  | [d1, d2, d3] => { results := [.lit (.bool true)], args := [d1, d2, d3] }
  | _ => none }
def irqTellsRow : OpenClaim := { program := "ytcmlhcabbnpibaa", sum := "a164e984ee59043a2898f1382dc33024e7e72489d06619820983c7197ceab5ef", func := "phosphor/phosphorlaw11.IrqTells", spec := "irqTells", unfollowed := true, recurses := true, apart := false }
def IrqTellsSaid : Prop := irqTellsRow.holds Try.pinned (OpenSpec.ofChange irqTellsSpec)

/-- ITS FALSE NEIGHBOUR: 'it returns false'. Refute it at one input. -/
def irqTellsWrong : ChangeSpec := { name := "irqTells", fn := fun _ => fun
  | [d1, d2, d3] => { results := [.lit (.bool false)], args := [d1, d2, d3] }
  | _ => none }
def IrqTellsWrongFalsely : Prop := irqTellsRow.holds Try.pinned (OpenSpec.ofChange irqTellsWrong)

/-- 'phosphorlaw06.RegionApart': WHATEVER THE INPUT: true; the input reads as it did. -/
def regionApartSpec : ChangeSpec := { name := "regionApart", fn := fun _ => fun
  | [d1, d2] => { results := [.lit (.bool true)], args := [d1, d2] }
  | _ => none }
def regionApartRow : OpenClaim := { program := "ytcmlhcabbnpibaa", sum := "a164e984ee59043a2898f1382dc33024e7e72489d06619820983c7197ceab5ef", func := "phosphor/phosphorlaw06.RegionApart", spec := "regionApart", apart := false }
def RegionApartSaid : Prop := regionApartRow.holds Try.pinned (OpenSpec.ofChange regionApartSpec)

/-- ITS FALSE NEIGHBOUR: 'it returns false'. Refute it at one input. -/
def regionApartWrong : ChangeSpec := { name := "regionApart", fn := fun _ => fun
  | [d1, d2] => { results := [.lit (.bool false)], args := [d1, d2] }
  | _ => none }
def RegionApartWrongFalsely : Prop := regionApartRow.holds Try.pinned (OpenSpec.ofChange regionApartWrong)

/-- 'phosphorlaw06.RegionOpen': WHATEVER THE INPUT: true; the input reads as it did. -/
def regionOpenSpec : ChangeSpec := { name := "regionOpen", fn := fun _ => fun
  | [d1, d2] => { results := [.lit (.bool true)], args := [d1, d2] }
  | _ => none }
def regionOpenRow : OpenClaim := { program := "ytcmlhcabbnpibaa", sum := "a164e984ee59043a2898f1382dc33024e7e72489d06619820983c7197ceab5ef", func := "phosphor/phosphorlaw06.RegionOpen", spec := "regionOpen", apart := false }
def RegionOpenSaid : Prop := regionOpenRow.holds Try.pinned (OpenSpec.ofChange regionOpenSpec)

/-- ITS FALSE NEIGHBOUR: 'it returns false'. Refute it at one input. -/
def regionOpenWrong : ChangeSpec := { name := "regionOpen", fn := fun _ => fun
  | [d1, d2] => { results := [.lit (.bool false)], args := [d1, d2] }
  | _ => none }
def RegionOpenWrongFalsely : Prop := regionOpenRow.holds Try.pinned (OpenSpec.ofChange regionOpenWrong)

/-- 'phosphorlaw06.RegionTells': WHATEVER THE INPUT: true; the input reads as it did. -/
def regionTellsSpec : ChangeSpec := { name := "regionTells", fn := fun _ => fun
  | [d1, d2] => { results := [.lit (.bool true)], args := [d1, d2] }
  | _ => none }
def regionTellsRow : OpenClaim := { program := "ytcmlhcabbnpibaa", sum := "a164e984ee59043a2898f1382dc33024e7e72489d06619820983c7197ceab5ef", func := "phosphor/phosphorlaw06.RegionTells", spec := "regionTells", apart := false }
def RegionTellsSaid : Prop := regionTellsRow.holds Try.pinned (OpenSpec.ofChange regionTellsSpec)

/-- ITS FALSE NEIGHBOUR: 'it returns false'. Refute it at one input. -/
def regionTellsWrong : ChangeSpec := { name := "regionTells", fn := fun _ => fun
  | [d1, d2] => { results := [.lit (.bool false)], args := [d1, d2] }
  | _ => none }
def RegionTellsWrongFalsely : Prop := regionTellsRow.holds Try.pinned (OpenSpec.ofChange regionTellsWrong)

/-- 'phosphorlaw06.RegionPorts': WHATEVER THE INPUT: true; the input reads as it did. -/
def regionPortsSpec : ChangeSpec := { name := "regionPorts", fn := fun _ => fun
  | [d1, d2] => { results := [.lit (.bool true)], args := [d1, d2] }
  | _ => none }
def regionPortsRow : OpenClaim := { program := "ytcmlhcabbnpibaa", sum := "a164e984ee59043a2898f1382dc33024e7e72489d06619820983c7197ceab5ef", func := "phosphor/phosphorlaw06.RegionPorts", spec := "regionPorts", apart := false }
def RegionPortsSaid : Prop := regionPortsRow.holds Try.pinned (OpenSpec.ofChange regionPortsSpec)

/-- ITS FALSE NEIGHBOUR: 'it returns false'. Refute it at one input. -/
def regionPortsWrong : ChangeSpec := { name := "regionPorts", fn := fun _ => fun
  | [d1, d2] => { results := [.lit (.bool false)], args := [d1, d2] }
  | _ => none }
def RegionPortsWrongFalsely : Prop := regionPortsRow.holds Try.pinned (OpenSpec.ofChange regionPortsWrong)

/- THE SECOND FORM. 'bulk': how many values and letters a reading holds, each counted each time it is reached (what is shared counts as often as it is met; a slice's spare places count too). A statement '..UptoSaid' is the law's where the arguments, and the package variables that the reading takes, are together of bulk at most 1048576: NARROWER than '..Said'. Prove '..Said' where nothing that the law and all that it calls make is longer than what came in: it says more and counts as full. Else prove '..UptoSaid'. A law counts once. -/
mutual
def uptoBulk {H : Type} : DataW H → Nat
  | .lit (.string bytes) => bytes.length + 1
  | .lit _ => 1
  | .nil => 1
  | .ptr d => uptoBulk d + 1
  | .slice elems spare => uptoBulkAll elems + uptoBulkAll spare + 1
  | .agg parts => uptoBulkAll parts + 1
  | .iface _ d => uptoBulk d + 1
  | .map entries => uptoBulkEntries entries + 1
  | .held _ => 1
def uptoBulkAll {H : Type} : List (DataW H) → Nat
  | [] => 0
  | d :: r => uptoBulk d + uptoBulkAll r
def uptoBulkEntries {H : Type} : List (Lit × DataW H) → Nat
  | [] => 0
  | x :: r => uptoBulkEntry x + uptoBulkEntries r
def uptoBulkEntry {H : Type} : Lit × DataW H → Nat
  | (.string bytes, d) => bytes.length + uptoBulk d + 1
  | (_, d) => uptoBulk d + 1
 end
def uptoSmall : (H : Type) → List (DataW H) → Bool := fun _ ds => decide (uptoBulkAll ds ≤ 1048576)
def OpenSpec.upto (s : _root_.Go.ChangeSpec) : _root_.Go.OpenSpec := { _root_.Go.OpenSpec.ofChange s with cond := some uptoSmall }

/-- 'phosphorlaw21.NoisePeriods', WHERE WHAT IT READS IS OF BULK AT MOST 1048576: true; the input reads as it did. -/
def noisePeriodsUptoRow : OpenClaim := { program := "ytcmlhcabbnpibaa", sum := "a164e984ee59043a2898f1382dc33024e7e72489d06619820983c7197ceab5ef", func := "phosphor/phosphorlaw21.NoisePeriods", spec := "noisePeriods", apart := false, narrowed := true }
def NoisePeriodsUptoSaid : Prop := noisePeriodsUptoRow.holds Try.pinned (OpenSpec.upto noisePeriodsSpec)

/-- 'phosphorlaw21.NoiseApart', WHERE WHAT IT READS IS OF BULK AT MOST 1048576: true; the input reads as it did. -/
def noiseApartUptoRow : OpenClaim := { program := "ytcmlhcabbnpibaa", sum := "a164e984ee59043a2898f1382dc33024e7e72489d06619820983c7197ceab5ef", func := "phosphor/phosphorlaw21.NoiseApart", spec := "noiseApart", apart := false, narrowed := true }
def NoiseApartUptoSaid : Prop := noiseApartUptoRow.holds Try.pinned (OpenSpec.upto noiseApartSpec)

/-- 'phosphorlaw21.NoiseParts', WHERE WHAT IT READS IS OF BULK AT MOST 1048576: true; the input reads as it did. -/
def noisePartsUptoRow : OpenClaim := { program := "ytcmlhcabbnpibaa", sum := "a164e984ee59043a2898f1382dc33024e7e72489d06619820983c7197ceab5ef", func := "phosphor/phosphorlaw21.NoiseParts", spec := "noiseParts", apart := false, narrowed := true }
def NoisePartsUptoSaid : Prop := noisePartsUptoRow.holds Try.pinned (OpenSpec.upto noisePartsSpec)

/-- 'phosphorlaw21.NoiseTells', WHERE WHAT IT READS IS OF BULK AT MOST 1048576: true; the input reads as it did. -/
def noiseTellsUptoRow : OpenClaim := { program := "ytcmlhcabbnpibaa", sum := "a164e984ee59043a2898f1382dc33024e7e72489d06619820983c7197ceab5ef", func := "phosphor/phosphorlaw21.NoiseTells", spec := "noiseTells", apart := false, narrowed := true }
def NoiseTellsUptoSaid : Prop := noiseTellsUptoRow.holds Try.pinned (OpenSpec.upto noiseTellsSpec)

/-- 'phosphorlaw11.IrqFirst', WHERE WHAT IT READS IS OF BULK AT MOST 1048576: true; the input reads as it did. -/
def irqFirstUptoRow : OpenClaim := { program := "ytcmlhcabbnpibaa", sum := "a164e984ee59043a2898f1382dc33024e7e72489d06619820983c7197ceab5ef", func := "phosphor/phosphorlaw11.IrqFirst", spec := "irqFirst", unfollowed := true, recurses := true, apart := false, narrowed := true }
def IrqFirstUptoSaid : Prop := irqFirstUptoRow.holds Try.pinned (OpenSpec.upto irqFirstSpec)

/-- 'phosphorlaw11.IrqMore', WHERE WHAT IT READS IS OF BULK AT MOST 1048576: true; the input reads as it did. -/
def irqMoreUptoRow : OpenClaim := { program := "ytcmlhcabbnpibaa", sum := "a164e984ee59043a2898f1382dc33024e7e72489d06619820983c7197ceab5ef", func := "phosphor/phosphorlaw11.IrqMore", spec := "irqMore", unfollowed := true, recurses := true, apart := false, narrowed := true }
def IrqMoreUptoSaid : Prop := irqMoreUptoRow.holds Try.pinned (OpenSpec.upto irqMoreSpec)

/-- 'phosphorlaw11.IrqClears', WHERE WHAT IT READS IS OF BULK AT MOST 1048576: true; the input reads as it did. -/
def irqClearsUptoRow : OpenClaim := { program := "ytcmlhcabbnpibaa", sum := "a164e984ee59043a2898f1382dc33024e7e72489d06619820983c7197ceab5ef", func := "phosphor/phosphorlaw11.IrqClears", spec := "irqClears", apart := false, narrowed := true }
def IrqClearsUptoSaid : Prop := irqClearsUptoRow.holds Try.pinned (OpenSpec.upto irqClearsSpec)

/-- 'phosphorlaw11.IrqTells', WHERE WHAT IT READS IS OF BULK AT MOST 1048576: true; the input reads as it did. -/
def irqTellsUptoRow : OpenClaim := { program := "ytcmlhcabbnpibaa", sum := "a164e984ee59043a2898f1382dc33024e7e72489d06619820983c7197ceab5ef", func := "phosphor/phosphorlaw11.IrqTells", spec := "irqTells", unfollowed := true, recurses := true, apart := false, narrowed := true }
def IrqTellsUptoSaid : Prop := irqTellsUptoRow.holds Try.pinned (OpenSpec.upto irqTellsSpec)

/-- 'phosphorlaw06.RegionApart', WHERE WHAT IT READS IS OF BULK AT MOST 1048576: true; the input reads as it did. -/
def regionApartUptoRow : OpenClaim := { program := "ytcmlhcabbnpibaa", sum := "a164e984ee59043a2898f1382dc33024e7e72489d06619820983c7197ceab5ef", func := "phosphor/phosphorlaw06.RegionApart", spec := "regionApart", apart := false, narrowed := true }
def RegionApartUptoSaid : Prop := regionApartUptoRow.holds Try.pinned (OpenSpec.upto regionApartSpec)

/-- 'phosphorlaw06.RegionOpen', WHERE WHAT IT READS IS OF BULK AT MOST 1048576: true; the input reads as it did. -/
def regionOpenUptoRow : OpenClaim := { program := "ytcmlhcabbnpibaa", sum := "a164e984ee59043a2898f1382dc33024e7e72489d06619820983c7197ceab5ef", func := "phosphor/phosphorlaw06.RegionOpen", spec := "regionOpen", apart := false, narrowed := true }
def RegionOpenUptoSaid : Prop := regionOpenUptoRow.holds Try.pinned (OpenSpec.upto regionOpenSpec)

/-- 'phosphorlaw06.RegionTells', WHERE WHAT IT READS IS OF BULK AT MOST 1048576: true; the input reads as it did. -/
def regionTellsUptoRow : OpenClaim := { program := "ytcmlhcabbnpibaa", sum := "a164e984ee59043a2898f1382dc33024e7e72489d06619820983c7197ceab5ef", func := "phosphor/phosphorlaw06.RegionTells", spec := "regionTells", apart := false, narrowed := true }
def RegionTellsUptoSaid : Prop := regionTellsUptoRow.holds Try.pinned (OpenSpec.upto regionTellsSpec)

/-- 'phosphorlaw06.RegionPorts', WHERE WHAT IT READS IS OF BULK AT MOST 1048576: true; the input reads as it did. -/
def regionPortsUptoRow : OpenClaim := { program := "ytcmlhcabbnpibaa", sum := "a164e984ee59043a2898f1382dc33024e7e72489d06619820983c7197ceab5ef", func := "phosphor/phosphorlaw06.RegionPorts", spec := "regionPorts", apart := false, narrowed := true }
def RegionPortsUptoSaid : Prop := regionPortsUptoRow.holds Try.pinned (OpenSpec.upto regionPortsSpec)

end Rows
end Go.Proofs.Ytcmlhcabbnpibaa
