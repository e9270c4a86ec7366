/-
  No cell of these rows narrows 'for every input' (looked for: loops, veiled, ifaces, maps, wideKeys, modest, calm, conditions, laid).
  DERIVED. THE GIVEN ROWS OF THIS SEAT. 10 by the template 'for every input the law returns true; each argument reads behind the call as it read before'; 0 by the template 'total and deterministic' (their statements: YtkhlghlmmnemeaaTotals.lean).
  GIVEN WITH THE SEED: the statements are not yours to turn. If you find one false, say at which input.
  Laid BY PROGRAM, IN A SANDBOX (cutbox-rows.mjs): the forced cells as the released guide's own fill.sh prints them over the translation 2c2d6eb8c456f494… (all of the seat's roots in one cut). By AI agents, Wed Nov 11 2026. No macro, syntax, notation, axiom, sorry.
-/
import Derived.Test.YtkhlghlmmnemeaaChecked
import GoSem.Claim
import GoSem.ClaimJoined
import GoSem.ClaimMapViews
import Derived.JoinedTies
import Derived.KernelRfl
namespace Go.Proofs.Ytkhlghlmmnemeaa
/- THE CELL 'sum', in the pinned program and in every row, IS THE sha256 OF THE DUMP (.gsa) THAT YtkhlghlmmnemeaaProg.lean LOADS. Nothing in Lean hashes anything: it is a label: what it is worth is what the hold of that sum in a sandbox is worth. -/
noncomputable def Try.pinned : Pinned := { name := "ytkhlghlmmnemeaa", sum := "2c2d6eb8c456f4940eef2b47ed701b5747e53acc00d92e5c24c66ca9853958b6", checked := Try.checked }
namespace Rows
def none {H : Type} : Left H := { results := [], args := [] }

/-- 'phosphorlaw20.VolumeTells': WHATEVER THE INPUT: true; the input reads as it did. -/
def volumeTellsSpec : ChangeSpec := { name := "volumeTells", fn := fun _ => fun
  | [d1, d2] => { results := [.lit (.bool true)], args := [d1, d2] }
  | _ => none }
def volumeTellsRow : OpenClaim := { program := "ytkhlghlmmnemeaa", sum := "2c2d6eb8c456f4940eef2b47ed701b5747e53acc00d92e5c24c66ca9853958b6", func := "phosphor/phosphorlaw20.VolumeTells", spec := "volumeTells", apart := false }
def VolumeTellsSaid : Prop := volumeTellsRow.holds Try.pinned (OpenSpec.ofChange volumeTellsSpec)

/-- ITS FALSE NEIGHBOUR: 'it returns false'. Refute it at one input. -/
def volumeTellsWrong : ChangeSpec := { name := "volumeTells", fn := fun _ => fun
  | [d1, d2] => { results := [.lit (.bool false)], args := [d1, d2] }
  | _ => none }
def VolumeTellsWrongFalsely : Prop := volumeTellsRow.holds Try.pinned (OpenSpec.ofChange volumeTellsWrong)

/-- 'phosphorlaw20.VolumeFalls': WHATEVER THE INPUT: true; the input reads as it did. -/
def volumeFallsSpec : ChangeSpec := { name := "volumeFalls", fn := fun _ => fun
  | [d1, d2] => { results := [.lit (.bool true)], args := [d1, d2] }
  | _ => none }
def volumeFallsRow : OpenClaim := { program := "ytkhlghlmmnemeaa", sum := "2c2d6eb8c456f4940eef2b47ed701b5747e53acc00d92e5c24c66ca9853958b6", func := "phosphor/phosphorlaw20.VolumeFalls", spec := "volumeFalls", apart := false }
def VolumeFallsSaid : Prop := volumeFallsRow.holds Try.pinned (OpenSpec.ofChange volumeFallsSpec)

/-- ITS FALSE NEIGHBOUR: 'it returns false'. Refute it at one input. -/
def volumeFallsWrong : ChangeSpec := { name := "volumeFalls", fn := fun _ => fun
  | [d1, d2] => { results := [.lit (.bool false)], args := [d1, d2] }
  | _ => none }
def VolumeFallsWrongFalsely : Prop := volumeFallsRow.holds Try.pinned (OpenSpec.ofChange volumeFallsWrong)

/-- 'phosphorlaw20.VolumeHalves': WHATEVER THE INPUT: true; the input reads as it did. -/
def volumeHalvesSpec : ChangeSpec := { name := "volumeHalves", fn := fun _ => fun
  | [d1, d2, d3] => { results := [.lit (.bool true)], args := [d1, d2, d3] }
  | _ => none }
def volumeHalvesRow : OpenClaim := { program := "ytkhlghlmmnemeaa", sum := "2c2d6eb8c456f4940eef2b47ed701b5747e53acc00d92e5c24c66ca9853958b6", func := "phosphor/phosphorlaw20.VolumeHalves", spec := "volumeHalves", apart := false }
def VolumeHalvesSaid : Prop := volumeHalvesRow.holds Try.pinned (OpenSpec.ofChange volumeHalvesSpec)

/-- ITS FALSE NEIGHBOUR: 'it returns false'. Refute it at one input. -/
def volumeHalvesWrong : ChangeSpec := { name := "volumeHalves", fn := fun _ => fun
  | [d1, d2, d3] => { results := [.lit (.bool false)], args := [d1, d2, d3] }
  | _ => none }
def VolumeHalvesWrongFalsely : Prop := volumeHalvesRow.holds Try.pinned (OpenSpec.ofChange volumeHalvesWrong)

/-- 'phosphorlaw22.PsgWrites': WHATEVER THE INPUT: true; the input reads as it did. -/
def psgWritesSpec : ChangeSpec := { name := "psgWrites", fn := fun _ => fun
  | [d1, d2, d3] => { results := [.lit (.bool true)], args := [d1, d2, d3] }
  | _ => none }
def psgWritesRow : OpenClaim := { program := "ytkhlghlmmnemeaa", sum := "2c2d6eb8c456f4940eef2b47ed701b5747e53acc00d92e5c24c66ca9853958b6", func := "phosphor/phosphorlaw22.PsgWrites", spec := "psgWrites", unfollowed := true, recurses := true, apart := false }
def PsgWritesSaid : Prop := psgWritesRow.holds Try.pinned (OpenSpec.ofChange psgWritesSpec)

/-- ITS FALSE NEIGHBOUR: 'it returns false'. Refute it at one input. -/
def psgWritesWrong : ChangeSpec := { name := "psgWrites", fn := fun _ => fun
  | [d1, d2, d3] => { results := [.lit (.bool false)], args := [d1, d2, d3] }
  | _ => none }
def PsgWritesWrongFalsely : Prop := psgWritesRow.holds Try.pinned (OpenSpec.ofChange psgWritesWrong)

/-- 'phosphorlaw22.PsgOthers': WHATEVER THE INPUT: true; the input reads as it did. -/
def psgOthersSpec : ChangeSpec := { name := "psgOthers", fn := fun _ => fun
  | [d1, d2, d3] => { results := [.lit (.bool true)], args := [d1, d2, d3] }
  | _ => none }
def psgOthersRow : OpenClaim := { program := "ytkhlghlmmnemeaa", sum := "2c2d6eb8c456f4940eef2b47ed701b5747e53acc00d92e5c24c66ca9853958b6", func := "phosphor/phosphorlaw22.PsgOthers", spec := "psgOthers", unfollowed := true, recurses := true, apart := false }
def PsgOthersSaid : Prop := psgOthersRow.holds Try.pinned (OpenSpec.ofChange psgOthersSpec)

/-- ITS FALSE NEIGHBOUR: 'it returns false'. Refute it at one input. -/
def psgOthersWrong : ChangeSpec := { name := "psgOthers", fn := fun _ => fun
  | [d1, d2, d3] => { results := [.lit (.bool false)], args := [d1, d2, d3] }
  | _ => none }
def PsgOthersWrongFalsely : Prop := psgOthersRow.holds Try.pinned (OpenSpec.ofChange psgOthersWrong)

/-- 'phosphorlaw22.PsgTells': WHATEVER THE INPUT: true; the input reads as it did. -/
def psgTellsSpec : ChangeSpec := { name := "psgTells", fn := fun _ => fun
  | [d1, d2] => { results := [.lit (.bool true)], args := [d1, d2] }
  | _ => none }
def psgTellsRow : OpenClaim := { program := "ytkhlghlmmnemeaa", sum := "2c2d6eb8c456f4940eef2b47ed701b5747e53acc00d92e5c24c66ca9853958b6", func := "phosphor/phosphorlaw22.PsgTells", spec := "psgTells", unfollowed := true, recurses := true, apart := false }
def PsgTellsSaid : Prop := psgTellsRow.holds Try.pinned (OpenSpec.ofChange psgTellsSpec)

/-- ITS FALSE NEIGHBOUR: 'it returns false'. Refute it at one input. -/
def psgTellsWrong : ChangeSpec := { name := "psgTells", fn := fun _ => fun
  | [d1, d2] => { results := [.lit (.bool false)], args := [d1, d2] }
  | _ => none }
def PsgTellsWrongFalsely : Prop := psgTellsRow.holds Try.pinned (OpenSpec.ofChange psgTellsWrong)

/-- 'phosphorlaw22.PsgParts': WHATEVER THE INPUT: true; the input reads as it did. -/
def psgPartsSpec : ChangeSpec := { name := "psgParts", fn := fun _ => fun
  | [d1, d2, d3] => { results := [.lit (.bool true)], args := [d1, d2, d3] }
  | _ => none }
def psgPartsRow : OpenClaim := { program := "ytkhlghlmmnemeaa", sum := "2c2d6eb8c456f4940eef2b47ed701b5747e53acc00d92e5c24c66ca9853958b6", func := "phosphor/phosphorlaw22.PsgParts", spec := "psgParts", unfollowed := true, recurses := true, apart := false }
def PsgPartsSaid : Prop := psgPartsRow.holds Try.pinned (OpenSpec.ofChange psgPartsSpec)

/-- ITS FALSE NEIGHBOUR: 'it returns false'. Refute it at one input. -/
def psgPartsWrong : ChangeSpec := { name := "psgParts", fn := fun _ => fun
  | [d1, d2, d3] => { results := [.lit (.bool false)], args := [d1, d2, d3] }
  | _ => none }
def PsgPartsWrongFalsely : Prop := psgPartsRow.holds Try.pinned (OpenSpec.ofChange psgPartsWrong)

/-- 'phosphorlaw22.PsgSilent': WHATEVER THE INPUT: true; the input reads as it did. -/
def psgSilentSpec : ChangeSpec := { name := "psgSilent", fn := fun _ => fun
  | [d1, d2] => { results := [.lit (.bool true)], args := [d1, d2] }
  | _ => none }
def psgSilentRow : OpenClaim := { program := "ytkhlghlmmnemeaa", sum := "2c2d6eb8c456f4940eef2b47ed701b5747e53acc00d92e5c24c66ca9853958b6", func := "phosphor/phosphorlaw22.PsgSilent", spec := "psgSilent", unfollowed := true, recurses := true, apart := false }
def PsgSilentSaid : Prop := psgSilentRow.holds Try.pinned (OpenSpec.ofChange psgSilentSpec)

/-- ITS FALSE NEIGHBOUR: 'it returns false'. Refute it at one input. -/
def psgSilentWrong : ChangeSpec := { name := "psgSilent", fn := fun _ => fun
  | [d1, d2] => { results := [.lit (.bool false)], args := [d1, d2] }
  | _ => none }
def PsgSilentWrongFalsely : Prop := psgSilentRow.holds Try.pinned (OpenSpec.ofChange psgSilentWrong)

/-- 'phosphorlaw22.PsgWaves': WHATEVER THE INPUT: true; the input reads as it did. -/
def psgWavesSpec : ChangeSpec := { name := "psgWaves", fn := fun _ => fun
  | [d1, d2, d3] => { results := [.lit (.bool true)], args := [d1, d2, d3] }
  | _ => none }
def psgWavesRow : OpenClaim := { program := "ytkhlghlmmnemeaa", sum := "2c2d6eb8c456f4940eef2b47ed701b5747e53acc00d92e5c24c66ca9853958b6", func := "phosphor/phosphorlaw22.PsgWaves", spec := "psgWaves", unfollowed := true, recurses := true, apart := false }
def PsgWavesSaid : Prop := psgWavesRow.holds Try.pinned (OpenSpec.ofChange psgWavesSpec)

/-- ITS FALSE NEIGHBOUR: 'it returns false'. Refute it at one input. -/
def psgWavesWrong : ChangeSpec := { name := "psgWaves", fn := fun _ => fun
  | [d1, d2, d3] => { results := [.lit (.bool false)], args := [d1, d2, d3] }
  | _ => none }
def PsgWavesWrongFalsely : Prop := psgWavesRow.holds Try.pinned (OpenSpec.ofChange psgWavesWrong)

/-- 'phosphorlaw22.PsgDirect': WHATEVER THE INPUT: true; the input reads as it did. -/
def psgDirectSpec : ChangeSpec := { name := "psgDirect", fn := fun _ => fun
  | [d1, d2, d3] => { results := [.lit (.bool true)], args := [d1, d2, d3] }
  | _ => none }
def psgDirectRow : OpenClaim := { program := "ytkhlghlmmnemeaa", sum := "2c2d6eb8c456f4940eef2b47ed701b5747e53acc00d92e5c24c66ca9853958b6", func := "phosphor/phosphorlaw22.PsgDirect", spec := "psgDirect", unfollowed := true, recurses := true, apart := false }
def PsgDirectSaid : Prop := psgDirectRow.holds Try.pinned (OpenSpec.ofChange psgDirectSpec)

/-- ITS FALSE NEIGHBOUR: 'it returns false'. Refute it at one input. -/
def psgDirectWrong : ChangeSpec := { name := "psgDirect", fn := fun _ => fun
  | [d1, d2, d3] => { results := [.lit (.bool false)], args := [d1, d2, d3] }
  | _ => none }
def PsgDirectWrongFalsely : Prop := psgDirectRow.holds Try.pinned (OpenSpec.ofChange psgDirectWrong)

/- THE SECOND FORM. 'bulk': how many values and letters a reading holds, each counted each time it is reached (what is shared counts as often as it is met; a slice's spare places count too). A statement '..UptoSaid' is the law's where the arguments, and the package variables that the reading takes, are together of bulk at most 1048576: NARROWER than '..Said'. Prove '..Said' where nothing that the law and all that it calls make is longer than what came in: it says more and counts as full. Else prove '..UptoSaid'. A law counts once. -/
mutual
def uptoBulk {H : Type} : DataW H → Nat
  | .lit (.string bytes) => bytes.length + 1
  | .lit _ => 1
  | .nil => 1
  | .ptr d => uptoBulk d + 1
  | .slice elems spare => uptoBulkAll elems + uptoBulkAll spare + 1
  | .agg parts => uptoBulkAll parts + 1
  | .iface _ d => uptoBulk d + 1
  | .map entries => uptoBulkEntries entries + 1
  | .held _ => 1
def uptoBulkAll {H : Type} : List (DataW H) → Nat
  | [] => 0
  | d :: r => uptoBulk d + uptoBulkAll r
def uptoBulkEntries {H : Type} : List (Lit × DataW H) → Nat
  | [] => 0
  | x :: r => uptoBulkEntry x + uptoBulkEntries r
def uptoBulkEntry {H : Type} : Lit × DataW H → Nat
  | (.string bytes, d) => bytes.length + uptoBulk d + 1
  | (_, d) => uptoBulk d + 1
 end
def uptoSmall : (H : Type) → List (DataW H) → Bool := fun _ ds => decide (uptoBulkAll ds ≤ 1048576)
def OpenSpec.upto (s : _root_.Go.ChangeSpec) : _root_.Go.OpenSpec := { _root_.Go.OpenSpec.ofChange s with cond := some uptoSmall }

/-- 'phosphorlaw20.VolumeTells', WHERE WHAT IT READS IS OF BULK AT MOST 1048576: true; the input reads as it did. -/
def volumeTellsUptoRow : OpenClaim := { program := "ytkhlghlmmnemeaa", sum := "2c2d6eb8c456f4940eef2b47ed701b5747e53acc00d92e5c24c66ca9853958b6", func := "phosphor/phosphorlaw20.VolumeTells", spec := "volumeTells", apart := false, narrowed := true }
def VolumeTellsUptoSaid : Prop := volumeTellsUptoRow.holds Try.pinned (OpenSpec.upto volumeTellsSpec)

/-- 'phosphorlaw20.VolumeFalls', WHERE WHAT IT READS IS OF BULK AT MOST 1048576: true; the input reads as it did. -/
def volumeFallsUptoRow : OpenClaim := { program := "ytkhlghlmmnemeaa", sum := "2c2d6eb8c456f4940eef2b47ed701b5747e53acc00d92e5c24c66ca9853958b6", func := "phosphor/phosphorlaw20.VolumeFalls", spec := "volumeFalls", apart := false, narrowed := true }
def VolumeFallsUptoSaid : Prop := volumeFallsUptoRow.holds Try.pinned (OpenSpec.upto volumeFallsSpec)

/-- 'phosphorlaw20.VolumeHalves', WHERE WHAT IT READS IS OF BULK AT MOST 1048576: true; the input reads as it did. -/
def volumeHalvesUptoRow : OpenClaim := { program := "ytkhlghlmmnemeaa", sum := "2c2d6eb8c456f4940eef2b47ed701b5747e53acc00d92e5c24c66ca9853958b6", func := "phosphor/phosphorlaw20.VolumeHalves", spec := "volumeHalves", apart := false, narrowed := true }
def VolumeHalvesUptoSaid : Prop := volumeHalvesUptoRow.holds Try.pinned (OpenSpec.upto volumeHalvesSpec)

/-- 'phosphorlaw22.PsgWrites', WHERE WHAT IT READS IS OF BULK AT MOST 1048576: true; the input reads as it did. -/
def psgWritesUptoRow : OpenClaim := { program := "ytkhlghlmmnemeaa", sum := "2c2d6eb8c456f4940eef2b47ed701b5747e53acc00d92e5c24c66ca9853958b6", func := "phosphor/phosphorlaw22.PsgWrites", spec := "psgWrites", unfollowed := true, recurses := true, apart := false, narrowed := true }
def PsgWritesUptoSaid : Prop := psgWritesUptoRow.holds Try.pinned (OpenSpec.upto psgWritesSpec)

/-- 'phosphorlaw22.PsgOthers', WHERE WHAT IT READS IS OF BULK AT MOST 1048576: true; the input reads as it did. -/
def psgOthersUptoRow : OpenClaim := { program := "ytkhlghlmmnemeaa", sum := "2c2d6eb8c456f4940eef2b47ed701b5747e53acc00d92e5c24c66ca9853958b6", func := "phosphor/phosphorlaw22.PsgOthers", spec := "psgOthers", unfollowed := true, recurses := true, apart := false, narrowed := true }
def PsgOthersUptoSaid : Prop := psgOthersUptoRow.holds Try.pinned (OpenSpec.upto psgOthersSpec)

/-- 'phosphorlaw22.PsgTells', WHERE WHAT IT READS IS OF BULK AT MOST 1048576: true; the input reads as it did. -/
def psgTellsUptoRow : OpenClaim := { program := "ytkhlghlmmnemeaa", sum := "2c2d6eb8c456f4940eef2b47ed701b5747e53acc00d92e5c24c66ca9853958b6", func := "phosphor/phosphorlaw22.PsgTells", spec := "psgTells", unfollowed := true, recurses := true, apart := false, narrowed := true }
def PsgTellsUptoSaid : Prop := psgTellsUptoRow.holds Try.pinned (OpenSpec.upto psgTellsSpec)

/-- 'phosphorlaw22.PsgParts', WHERE WHAT IT READS IS OF BULK AT MOST 1048576: true; the input reads as it did. -/
def psgPartsUptoRow : OpenClaim := { program := "ytkhlghlmmnemeaa", sum := "2c2d6eb8c456f4940eef2b47ed701b5747e53acc00d92e5c24c66ca9853958b6", func := "phosphor/phosphorlaw22.PsgParts", spec := "psgParts", unfollowed := true, recurses := true, apart := false, narrowed := true }
def PsgPartsUptoSaid : Prop := psgPartsUptoRow.holds Try.pinned (OpenSpec.upto psgPartsSpec)

/-- 'phosphorlaw22.PsgSilent', WHERE WHAT IT READS IS OF BULK AT MOST 1048576: true; the input reads as it did. -/
def psgSilentUptoRow : OpenClaim := { program := "ytkhlghlmmnemeaa", sum := "2c2d6eb8c456f4940eef2b47ed701b5747e53acc00d92e5c24c66ca9853958b6", func := "phosphor/phosphorlaw22.PsgSilent", spec := "psgSilent", unfollowed := true, recurses := true, apart := false, narrowed := true }
def PsgSilentUptoSaid : Prop := psgSilentUptoRow.holds Try.pinned (OpenSpec.upto psgSilentSpec)

/-- 'phosphorlaw22.PsgWaves', WHERE WHAT IT READS IS OF BULK AT MOST 1048576: true; the input reads as it did. -/
def psgWavesUptoRow : OpenClaim := { program := "ytkhlghlmmnemeaa", sum := "2c2d6eb8c456f4940eef2b47ed701b5747e53acc00d92e5c24c66ca9853958b6", func := "phosphor/phosphorlaw22.PsgWaves", spec := "psgWaves", unfollowed := true, recurses := true, apart := false, narrowed := true }
def PsgWavesUptoSaid : Prop := psgWavesUptoRow.holds Try.pinned (OpenSpec.upto psgWavesSpec)

/-- 'phosphorlaw22.PsgDirect', WHERE WHAT IT READS IS OF BULK AT MOST 1048576: true; the input reads as it did. -/
def psgDirectUptoRow : OpenClaim := { program := "ytkhlghlmmnemeaa", sum := "2c2d6eb8c456f4940eef2b47ed701b5747e53acc00d92e5c24c66ca9853958b6", func := "phosphor/phosphorlaw22.PsgDirect", spec := "psgDirect", unfollowed := true, recurses := true, apart := false, narrowed := true }
def PsgDirectUptoSaid : Prop := psgDirectUptoRow.holds Try.pinned (OpenSpec.upto psgDirectSpec)

end Rows
end Go.Proofs.Ytkhlghlmmnemeaa
