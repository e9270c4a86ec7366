/-
  NARROWER THAN 'FOR EVERY INPUT', by the rows' own cells (each row's printed sentence says how): CardLoads: laid · CardHeader: laid · CardTells: laid.
  DERIVED. THE GIVEN ROWS OF THIS SEAT. 3 by the template 'for every input the law returns true; each argument reads behind the call as it read before'; 0 by the template 'total and deterministic' (their statements: YtabfnphbbdklgaaDoorTotals.lean).
  GIVEN WITH THE SEED: the statements are not yours to turn. If you find one false, say at which input.
  Laid BY PROGRAM, IN A SANDBOX (cutbox-rows.mjs): the forced cells as the released guide's own fill.sh prints them over the translation 8f4a367142cb6bb9… (all of the seat's roots in one cut). By AI agents, Wed Nov 11 2026. No macro, syntax, notation, axiom, sorry.
-/
import Derived.Test.YtabfnphbbdklgaaDoorChecked
import GoSem.Claim
import GoSem.ClaimJoined
import GoSem.ClaimMapViews
import Derived.JoinedTies
import Derived.KernelRfl
namespace Go.Proofs.YtabfnphbbdklgaaDoor
/- THE CELL 'sum', in the pinned program and in every row, IS THE sha256 OF THE DUMP (.gsa) THAT YtabfnphbbdklgaaDoorProg.lean LOADS. Nothing in Lean hashes anything: it is a label: what it is worth is what the hold of that sum in a sandbox is worth. -/
noncomputable def Tryd.pinned : Pinned := { name := "ytabfnphbbdklgaadoor", sum := "8f4a367142cb6bb927b2b9db36cd8a488f6435a17d080cb9b50bfbe0706c2cd2", checked := Tryd.checked }
namespace Rows
def none {H : Type} : Left H := { results := [], args := [] }

/- WHAT THE LISTED PACKAGE-LEVEL VARIABLES READ AS WHEN THE CALL BEGINS. Each datum BY PROGRAM (the guide's laid-datum.mjs) off the statement by which the dump's own 'gosem.cut.vars' lays the variable. In a bare row this is a premise. The card (YtabfnphbbdklgaaDoorCards.lean) ties it to the program's text. -/
def laid_errors_errorType {H : Type} : DataW H := .iface "internal/reflectlite.rtype" (.agg [.ptr (.lit (.string [101, 114, 114, 111, 114]))])

/-- 'phosphorlaw03.CardLoads': WHATEVER THE INPUT: true; the input reads as it did. -/
def cardLoadsSpec : ChangeSpec := { name := "cardLoads", fn := fun _ => fun
  | [d1, d2, d3] => { results := [.lit (.bool true)], args := [d1, d2, d3] }
  | _ => none }
def cardLoadsRow : OpenClaim := { program := "ytabfnphbbdklgaadoor", sum := "8f4a367142cb6bb927b2b9db36cd8a488f6435a17d080cb9b50bfbe0706c2cd2", func := "phosphor/phosphorlaw03.CardLoads", spec := "cardLoads", inPlace := ["internal/reflectlite.ValueOf", "(internal/reflectlite.Value).Type", "(internal/reflectlite.Value).IsNil", "internal/reflectlite.TypeOf", "(internal/reflectlite.Value).Elem", "(internal/reflectlite.Value).Set"], unfollowed := true, recurses := true, named := ["errors.errorType"], apart := false, laid := [("errors.errorType", laid_errors_errorType)] }
def CardLoadsSaid : Prop := cardLoadsRow.holds Tryd.pinned (OpenSpec.ofChange cardLoadsSpec)

/-- ITS FALSE NEIGHBOUR: 'it returns false'. Refute it at one input. -/
def cardLoadsWrong : ChangeSpec := { name := "cardLoads", fn := fun _ => fun
  | [d1, d2, d3] => { results := [.lit (.bool false)], args := [d1, d2, d3] }
  | _ => none }
def CardLoadsWrongFalsely : Prop := cardLoadsRow.holds Tryd.pinned (OpenSpec.ofChange cardLoadsWrong)

/-- 'phosphorlaw03.CardHeader': WHATEVER THE INPUT: true; the input reads as it did. -/
def cardHeaderSpec : ChangeSpec := { name := "cardHeader", fn := fun _ => fun
  | [d1, d2, d3] => { results := [.lit (.bool true)], args := [d1, d2, d3] }
  | _ => none }
def cardHeaderRow : OpenClaim := { program := "ytabfnphbbdklgaadoor", sum := "8f4a367142cb6bb927b2b9db36cd8a488f6435a17d080cb9b50bfbe0706c2cd2", func := "phosphor/phosphorlaw03.CardHeader", spec := "cardHeader", inPlace := ["internal/reflectlite.ValueOf", "(internal/reflectlite.Value).Type", "(internal/reflectlite.Value).IsNil", "internal/reflectlite.TypeOf", "(internal/reflectlite.Value).Elem", "(internal/reflectlite.Value).Set"], unfollowed := true, recurses := true, named := ["errors.errorType"], apart := false, laid := [("errors.errorType", laid_errors_errorType)] }
def CardHeaderSaid : Prop := cardHeaderRow.holds Tryd.pinned (OpenSpec.ofChange cardHeaderSpec)

/-- ITS FALSE NEIGHBOUR: 'it returns false'. Refute it at one input. -/
def cardHeaderWrong : ChangeSpec := { name := "cardHeader", fn := fun _ => fun
  | [d1, d2, d3] => { results := [.lit (.bool false)], args := [d1, d2, d3] }
  | _ => none }
def CardHeaderWrongFalsely : Prop := cardHeaderRow.holds Tryd.pinned (OpenSpec.ofChange cardHeaderWrong)

/-- 'phosphorlaw03.CardTells': WHATEVER THE INPUT: true; the input reads as it did. -/
def cardTellsSpec : ChangeSpec := { name := "cardTells", fn := fun _ => fun
  | [d1, d2] => { results := [.lit (.bool true)], args := [d1, d2] }
  | _ => none }
def cardTellsRow : OpenClaim := { program := "ytabfnphbbdklgaadoor", sum := "8f4a367142cb6bb927b2b9db36cd8a488f6435a17d080cb9b50bfbe0706c2cd2", func := "phosphor/phosphorlaw03.CardTells", spec := "cardTells", inPlace := ["internal/reflectlite.ValueOf", "(internal/reflectlite.Value).Type", "(internal/reflectlite.Value).IsNil", "internal/reflectlite.TypeOf", "(internal/reflectlite.Value).Elem", "(internal/reflectlite.Value).Set"], unfollowed := true, recurses := true, named := ["errors.errorType"], apart := false, laid := [("errors.errorType", laid_errors_errorType)] }
def CardTellsSaid : Prop := cardTellsRow.holds Tryd.pinned (OpenSpec.ofChange cardTellsSpec)

/-- ITS FALSE NEIGHBOUR: 'it returns false'. Refute it at one input. -/
def cardTellsWrong : ChangeSpec := { name := "cardTells", fn := fun _ => fun
  | [d1, d2] => { results := [.lit (.bool false)], args := [d1, d2] }
  | _ => none }
def CardTellsWrongFalsely : Prop := cardTellsRow.holds Tryd.pinned (OpenSpec.ofChange cardTellsWrong)

/- THE SECOND FORM. 'bulk': how many values and letters a reading holds, each counted each time it is reached (what is shared counts as often as it is met; a slice's spare places count too). A statement '..UptoSaid' is the law's where the arguments, and the package variables that the reading takes, are together of bulk at most 1048576: NARROWER than '..Said'. Prove '..Said' where nothing that the law and all that it calls make is longer than what came in: it says more and counts as full. Else prove '..UptoSaid'. A law counts once. -/
mutual
def uptoBulk {H : Type} : DataW H → Nat
  | .lit (.string bytes) => bytes.length + 1
  | .lit _ => 1
  | .nil => 1
  | .ptr d => uptoBulk d + 1
  | .slice elems spare => uptoBulkAll elems + uptoBulkAll spare + 1
  | .agg parts => uptoBulkAll parts + 1
  | .iface _ d => uptoBulk d + 1
  | .map entries => uptoBulkEntries entries + 1
  | .held _ => 1
def uptoBulkAll {H : Type} : List (DataW H) → Nat
  | [] => 0
  | d :: r => uptoBulk d + uptoBulkAll r
def uptoBulkEntries {H : Type} : List (Lit × DataW H) → Nat
  | [] => 0
  | x :: r => uptoBulkEntry x + uptoBulkEntries r
def uptoBulkEntry {H : Type} : Lit × DataW H → Nat
  | (.string bytes, d) => bytes.length + uptoBulk d + 1
  | (_, d) => uptoBulk d + 1
 end
def uptoSmall : (H : Type) → List (DataW H) → Bool := fun _ ds => decide (uptoBulkAll ds ≤ 1048576)
def OpenSpec.upto (s : _root_.Go.ChangeSpec) : _root_.Go.OpenSpec := { _root_.Go.OpenSpec.ofChange s with cond := some uptoSmall }

/-- 'phosphorlaw03.CardLoads', WHERE WHAT IT READS IS OF BULK AT MOST 1048576: true; the input reads as it did. -/
def cardLoadsUptoRow : OpenClaim := { program := "ytabfnphbbdklgaadoor", sum := "8f4a367142cb6bb927b2b9db36cd8a488f6435a17d080cb9b50bfbe0706c2cd2", func := "phosphor/phosphorlaw03.CardLoads", spec := "cardLoads", inPlace := ["internal/reflectlite.ValueOf", "(internal/reflectlite.Value).Type", "(internal/reflectlite.Value).IsNil", "internal/reflectlite.TypeOf", "(internal/reflectlite.Value).Elem", "(internal/reflectlite.Value).Set"], unfollowed := true, recurses := true, named := ["errors.errorType"], apart := false, laid := [("errors.errorType", laid_errors_errorType)], narrowed := true }
def CardLoadsUptoSaid : Prop := cardLoadsUptoRow.holds Tryd.pinned (OpenSpec.upto cardLoadsSpec)

/-- 'phosphorlaw03.CardHeader', WHERE WHAT IT READS IS OF BULK AT MOST 1048576: true; the input reads as it did. -/
def cardHeaderUptoRow : OpenClaim := { program := "ytabfnphbbdklgaadoor", sum := "8f4a367142cb6bb927b2b9db36cd8a488f6435a17d080cb9b50bfbe0706c2cd2", func := "phosphor/phosphorlaw03.CardHeader", spec := "cardHeader", inPlace := ["internal/reflectlite.ValueOf", "(internal/reflectlite.Value).Type", "(internal/reflectlite.Value).IsNil", "internal/reflectlite.TypeOf", "(internal/reflectlite.Value).Elem", "(internal/reflectlite.Value).Set"], unfollowed := true, recurses := true, named := ["errors.errorType"], apart := false, laid := [("errors.errorType", laid_errors_errorType)], narrowed := true }
def CardHeaderUptoSaid : Prop := cardHeaderUptoRow.holds Tryd.pinned (OpenSpec.upto cardHeaderSpec)

/-- 'phosphorlaw03.CardTells', WHERE WHAT IT READS IS OF BULK AT MOST 1048576: true; the input reads as it did. -/
def cardTellsUptoRow : OpenClaim := { program := "ytabfnphbbdklgaadoor", sum := "8f4a367142cb6bb927b2b9db36cd8a488f6435a17d080cb9b50bfbe0706c2cd2", func := "phosphor/phosphorlaw03.CardTells", spec := "cardTells", inPlace := ["internal/reflectlite.ValueOf", "(internal/reflectlite.Value).Type", "(internal/reflectlite.Value).IsNil", "internal/reflectlite.TypeOf", "(internal/reflectlite.Value).Elem", "(internal/reflectlite.Value).Set"], unfollowed := true, recurses := true, named := ["errors.errorType"], apart := false, laid := [("errors.errorType", laid_errors_errorType)], narrowed := true }
def CardTellsUptoSaid : Prop := cardTellsUptoRow.holds Tryd.pinned (OpenSpec.upto cardTellsSpec)

end Rows
end Go.Proofs.YtabfnphbbdklgaaDoor
