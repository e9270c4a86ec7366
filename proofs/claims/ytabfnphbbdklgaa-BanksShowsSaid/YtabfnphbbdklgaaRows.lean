/-
  No cell of these rows narrows 'for every input' (looked for: loops, veiled, ifaces, maps, wideKeys, modest, calm, conditions, laid).
  DERIVED. THE GIVEN ROWS OF THIS SEAT. 7 by the template 'for every input the law returns true; each argument reads behind the call as it read before'; 0 by the template 'total and deterministic' (their statements: YtabfnphbbdklgaaTotals.lean).
  GIVEN WITH THE SEED: the statements are not yours to turn. If you find one false, say at which input.
  Laid BY PROGRAM, IN A SANDBOX (cutbox-rows.mjs): the forced cells as the released guide's own fill.sh prints them over the translation 4e39dba447b4e426… (all of the seat's roots in one cut). By AI agents, Wed Nov 11 2026. No macro, syntax, notation, axiom, sorry.
-/
import Derived.Test.YtabfnphbbdklgaaChecked
import GoSem.Claim
import GoSem.ClaimJoined
import GoSem.ClaimMapViews
import Derived.JoinedTies
import Derived.KernelRfl
namespace Go.Proofs.Ytabfnphbbdklgaa
/- THE CELL 'sum', in the pinned program and in every row, IS THE sha256 OF THE DUMP (.gsa) THAT YtabfnphbbdklgaaProg.lean LOADS. Nothing in Lean hashes anything: it is a label: what it is worth is what the hold of that sum in a sandbox is worth. -/
noncomputable def Try.pinned : Pinned := { name := "ytabfnphbbdklgaa", sum := "4e39dba447b4e42607ce240e4079f1ea3b15217f3a5d35f8999e42604024531a", checked := Try.checked }
namespace Rows
def none {H : Type} : Left H := { results := [], args := [] }

/-- 'phosphorlaw03.CardClasses': WHATEVER THE INPUT: true; the input reads as it did. -/
def cardClassesSpec : ChangeSpec := { name := "cardClasses", fn := fun _ => fun
  | [d] => { results := [.lit (.bool true)], args := [d] }
  | _ => none }
def cardClassesRow : OpenClaim := { program := "ytabfnphbbdklgaa", sum := "4e39dba447b4e42607ce240e4079f1ea3b15217f3a5d35f8999e42604024531a", func := "phosphor/phosphorlaw03.CardClasses", spec := "cardClasses", apart := false }
def CardClassesSaid : Prop := cardClassesRow.holds Try.pinned (OpenSpec.ofChange cardClassesSpec)

/-- ITS FALSE NEIGHBOUR: 'it returns false'. Refute it at one input. -/
def cardClassesWrong : ChangeSpec := { name := "cardClasses", fn := fun _ => fun
  | [d] => { results := [.lit (.bool false)], args := [d] }
  | _ => none }
def CardClassesWrongFalsely : Prop := cardClassesRow.holds Try.pinned (OpenSpec.ofChange cardClassesWrong)

/-- 'phosphorlaw03.CardNobody': WHATEVER THE INPUT: true; the input reads as it did. -/
def cardNobodySpec : ChangeSpec := { name := "cardNobody", fn := fun _ => fun
  | [d1, d2] => { results := [.lit (.bool true)], args := [d1, d2] }
  | _ => none }
def cardNobodyRow : OpenClaim := { program := "ytabfnphbbdklgaa", sum := "4e39dba447b4e42607ce240e4079f1ea3b15217f3a5d35f8999e42604024531a", func := "phosphor/phosphorlaw03.CardNobody", spec := "cardNobody", apart := false }
def CardNobodySaid : Prop := cardNobodyRow.holds Try.pinned (OpenSpec.ofChange cardNobodySpec)

/-- ITS FALSE NEIGHBOUR: 'it returns false'. Refute it at one input. -/
def cardNobodyWrong : ChangeSpec := { name := "cardNobody", fn := fun _ => fun
  | [d1, d2] => { results := [.lit (.bool false)], args := [d1, d2] }
  | _ => none }
def CardNobodyWrongFalsely : Prop := cardNobodyRow.holds Try.pinned (OpenSpec.ofChange cardNobodyWrong)

/-- 'phosphorlaw04.BanksAll': WHATEVER THE INPUT: true; the input reads as it did. -/
def banksAllSpec : ChangeSpec := { name := "banksAll", fn := fun _ => fun
  | [d1, d2] => { results := [.lit (.bool true)], args := [d1, d2] }
  | _ => none }
def banksAllRow : OpenClaim := { program := "ytabfnphbbdklgaa", sum := "4e39dba447b4e42607ce240e4079f1ea3b15217f3a5d35f8999e42604024531a", func := "phosphor/phosphorlaw04.BanksAll", spec := "banksAll", unfollowed := true, recurses := true, apart := false }
def BanksAllSaid : Prop := banksAllRow.holds Try.pinned (OpenSpec.ofChange banksAllSpec)

/-- ITS FALSE NEIGHBOUR: 'it returns false'. Refute it at one input. -/
def banksAllWrong : ChangeSpec := { name := "banksAll", fn := fun _ => fun
  | [d1, d2] => { results := [.lit (.bool false)], args := [d1, d2] }
  | _ => none }
def BanksAllWrongFalsely : Prop := banksAllRow.holds Try.pinned (OpenSpec.ofChange banksAllWrong)

/-- 'phosphorlaw04.BanksRound': WHATEVER THE INPUT: true; the input reads as it did. -/
def banksRoundSpec : ChangeSpec := { name := "banksRound", fn := fun _ => fun
  | [d1, d2, d3] => { results := [.lit (.bool true)], args := [d1, d2, d3] }
  | _ => none }
def banksRoundRow : OpenClaim := { program := "ytabfnphbbdklgaa", sum := "4e39dba447b4e42607ce240e4079f1ea3b15217f3a5d35f8999e42604024531a", func := "phosphor/phosphorlaw04.BanksRound", spec := "banksRound", unfollowed := true, recurses := true, apart := false }
def BanksRoundSaid : Prop := banksRoundRow.holds Try.pinned (OpenSpec.ofChange banksRoundSpec)

/-- ITS FALSE NEIGHBOUR: 'it returns false'. Refute it at one input. -/
def banksRoundWrong : ChangeSpec := { name := "banksRound", fn := fun _ => fun
  | [d1, d2, d3] => { results := [.lit (.bool false)], args := [d1, d2, d3] }
  | _ => none }
def BanksRoundWrongFalsely : Prop := banksRoundRow.holds Try.pinned (OpenSpec.ofChange banksRoundWrong)

/-- 'phosphorlaw04.BanksTells': WHATEVER THE INPUT: true; the input reads as it did. -/
def banksTellsSpec : ChangeSpec := { name := "banksTells", fn := fun _ => fun
  | [d1, d2, d3] => { results := [.lit (.bool true)], args := [d1, d2, d3] }
  | _ => none }
def banksTellsRow : OpenClaim := { program := "ytabfnphbbdklgaa", sum := "4e39dba447b4e42607ce240e4079f1ea3b15217f3a5d35f8999e42604024531a", func := "phosphor/phosphorlaw04.BanksTells", spec := "banksTells", unfollowed := true, recurses := true, apart := false }
def BanksTellsSaid : Prop := banksTellsRow.holds Try.pinned (OpenSpec.ofChange banksTellsSpec)

/-- ITS FALSE NEIGHBOUR: 'it returns false'. Refute it at one input. -/
def banksTellsWrong : ChangeSpec := { name := "banksTells", fn := fun _ => fun
  | [d1, d2, d3] => { results := [.lit (.bool false)], args := [d1, d2, d3] }
  | _ => none }
def BanksTellsWrongFalsely : Prop := banksTellsRow.holds Try.pinned (OpenSpec.ofChange banksTellsWrong)

/-- 'phosphorlaw04.BanksShows': WHATEVER THE INPUT: true; the input reads as it did. -/
def banksShowsSpec : ChangeSpec := { name := "banksShows", fn := fun _ => fun
  | [d] => { results := [.lit (.bool true)], args := [d] }
  | _ => none }
def banksShowsRow : OpenClaim := { program := "ytabfnphbbdklgaa", sum := "4e39dba447b4e42607ce240e4079f1ea3b15217f3a5d35f8999e42604024531a", func := "phosphor/phosphorlaw04.BanksShows", spec := "banksShows", unfollowed := true, recurses := true, apart := false }
def BanksShowsSaid : Prop := banksShowsRow.holds Try.pinned (OpenSpec.ofChange banksShowsSpec)

/-- ITS FALSE NEIGHBOUR: 'it returns false'. Refute it at one input. -/
def banksShowsWrong : ChangeSpec := { name := "banksShows", fn := fun _ => fun
  | [d] => { results := [.lit (.bool false)], args := [d] }
  | _ => none }
def BanksShowsWrongFalsely : Prop := banksShowsRow.holds Try.pinned (OpenSpec.ofChange banksShowsWrong)

/-- 'phosphorlaw04.BanksLatches': WHATEVER THE INPUT: true; the input reads as it did. -/
def banksLatchesSpec : ChangeSpec := { name := "banksLatches", fn := fun _ => fun
  | [d1, d2, d3] => { results := [.lit (.bool true)], args := [d1, d2, d3] }
  | _ => none }
def banksLatchesRow : OpenClaim := { program := "ytabfnphbbdklgaa", sum := "4e39dba447b4e42607ce240e4079f1ea3b15217f3a5d35f8999e42604024531a", func := "phosphor/phosphorlaw04.BanksLatches", spec := "banksLatches", unfollowed := true, recurses := true, apart := false }
def BanksLatchesSaid : Prop := banksLatchesRow.holds Try.pinned (OpenSpec.ofChange banksLatchesSpec)

/-- ITS FALSE NEIGHBOUR: 'it returns false'. Refute it at one input. -/
def banksLatchesWrong : ChangeSpec := { name := "banksLatches", fn := fun _ => fun
  | [d1, d2, d3] => { results := [.lit (.bool false)], args := [d1, d2, d3] }
  | _ => none }
def BanksLatchesWrongFalsely : Prop := banksLatchesRow.holds Try.pinned (OpenSpec.ofChange banksLatchesWrong)

/- THE SECOND FORM. 'bulk': how many values and letters a reading holds, each counted each time it is reached (what is shared counts as often as it is met; a slice's spare places count too). A statement '..UptoSaid' is the law's where the arguments, and the package variables that the reading takes, are together of bulk at most 1048576: NARROWER than '..Said'. Prove '..Said' where nothing that the law and all that it calls make is longer than what came in: it says more and counts as full. Else prove '..UptoSaid'. A law counts once. -/
mutual
def uptoBulk {H : Type} : DataW H → Nat
  | .lit (.string bytes) => bytes.length + 1
  | .lit _ => 1
  | .nil => 1
  | .ptr d => uptoBulk d + 1
  | .slice elems spare => uptoBulkAll elems + uptoBulkAll spare + 1
  | .agg parts => uptoBulkAll parts + 1
  | .iface _ d => uptoBulk d + 1
  | .map entries => uptoBulkEntries entries + 1
  | .held _ => 1
def uptoBulkAll {H : Type} : List (DataW H) → Nat
  | [] => 0
  | d :: r => uptoBulk d + uptoBulkAll r
def uptoBulkEntries {H : Type} : List (Lit × DataW H) → Nat
  | [] => 0
  | x :: r => uptoBulkEntry x + uptoBulkEntries r
def uptoBulkEntry {H : Type} : Lit × DataW H → Nat
  | (.string bytes, d) => bytes.length + uptoBulk d + 1
  | (_, d) => uptoBulk d + 1
 end
def uptoSmall : (H : Type) → List (DataW H) → Bool := fun _ ds => decide (uptoBulkAll ds ≤ 1048576)
def OpenSpec.upto (s : _root_.Go.ChangeSpec) : _root_.Go.OpenSpec := { _root_.Go.OpenSpec.ofChange s with cond := some uptoSmall }

/-- 'phosphorlaw03.CardClasses', WHERE WHAT IT READS IS OF BULK AT MOST 1048576: true; the input reads as it did. -/
def cardClassesUptoRow : OpenClaim := { program := "ytabfnphbbdklgaa", sum := "4e39dba447b4e42607ce240e4079f1ea3b15217f3a5d35f8999e42604024531a", func := "phosphor/phosphorlaw03.CardClasses", spec := "cardClasses", apart := false, narrowed := true }
def CardClassesUptoSaid : Prop := cardClassesUptoRow.holds Try.pinned (OpenSpec.upto cardClassesSpec)

/-- 'phosphorlaw03.CardNobody', WHERE WHAT IT READS IS OF BULK AT MOST 1048576: true; the input reads as it did. -/
def cardNobodyUptoRow : OpenClaim := { program := "ytabfnphbbdklgaa", sum := "4e39dba447b4e42607ce240e4079f1ea3b15217f3a5d35f8999e42604024531a", func := "phosphor/phosphorlaw03.CardNobody", spec := "cardNobody", apart := false, narrowed := true }
def CardNobodyUptoSaid : Prop := cardNobodyUptoRow.holds Try.pinned (OpenSpec.upto cardNobodySpec)

/-- 'phosphorlaw04.BanksAll', WHERE WHAT IT READS IS OF BULK AT MOST 1048576: true; the input reads as it did. -/
def banksAllUptoRow : OpenClaim := { program := "ytabfnphbbdklgaa", sum := "4e39dba447b4e42607ce240e4079f1ea3b15217f3a5d35f8999e42604024531a", func := "phosphor/phosphorlaw04.BanksAll", spec := "banksAll", unfollowed := true, recurses := true, apart := false, narrowed := true }
def BanksAllUptoSaid : Prop := banksAllUptoRow.holds Try.pinned (OpenSpec.upto banksAllSpec)

/-- 'phosphorlaw04.BanksRound', WHERE WHAT IT READS IS OF BULK AT MOST 1048576: true; the input reads as it did. -/
def banksRoundUptoRow : OpenClaim := { program := "ytabfnphbbdklgaa", sum := "4e39dba447b4e42607ce240e4079f1ea3b15217f3a5d35f8999e42604024531a", func := "phosphor/phosphorlaw04.BanksRound", spec := "banksRound", unfollowed := true, recurses := true, apart := false, narrowed := true }
def BanksRoundUptoSaid : Prop := banksRoundUptoRow.holds Try.pinned (OpenSpec.upto banksRoundSpec)

/-- 'phosphorlaw04.BanksTells', WHERE WHAT IT READS IS OF BULK AT MOST 1048576: true; the input reads as it did. -/
def banksTellsUptoRow : OpenClaim := { program := "ytabfnphbbdklgaa", sum := "4e39dba447b4e42607ce240e4079f1ea3b15217f3a5d35f8999e42604024531a", func := "phosphor/phosphorlaw04.BanksTells", spec := "banksTells", unfollowed := true, recurses := true, apart := false, narrowed := true }
def BanksTellsUptoSaid : Prop := banksTellsUptoRow.holds Try.pinned (OpenSpec.upto banksTellsSpec)

/-- 'phosphorlaw04.BanksShows', WHERE WHAT IT READS IS OF BULK AT MOST 1048576: true; the input reads as it did. -/
def banksShowsUptoRow : OpenClaim := { program := "ytabfnphbbdklgaa", sum := "4e39dba447b4e42607ce240e4079f1ea3b15217f3a5d35f8999e42604024531a", func := "phosphor/phosphorlaw04.BanksShows", spec := "banksShows", unfollowed := true, recurses := true, apart := false, narrowed := true }
def BanksShowsUptoSaid : Prop := banksShowsUptoRow.holds Try.pinned (OpenSpec.upto banksShowsSpec)

/-- 'phosphorlaw04.BanksLatches', WHERE WHAT IT READS IS OF BULK AT MOST 1048576: true; the input reads as it did. -/
def banksLatchesUptoRow : OpenClaim := { program := "ytabfnphbbdklgaa", sum := "4e39dba447b4e42607ce240e4079f1ea3b15217f3a5d35f8999e42604024531a", func := "phosphor/phosphorlaw04.BanksLatches", spec := "banksLatches", unfollowed := true, recurses := true, apart := false, narrowed := true }
def BanksLatchesUptoSaid : Prop := banksLatchesUptoRow.holds Try.pinned (OpenSpec.upto banksLatchesSpec)

end Rows
end Go.Proofs.Ytabfnphbbdklgaa
