/-
  DERIVED. GIVEN WITH THE SEED: THE CARDS: each row of YtabfnphbbdklgaaDoorRows.lean that lists a variable, with what it lists TIED to the program's text (the seventh form; the later family's looks); each row that meets fmt, with fmt's text TOLD by the authors' own Lean function (tested against real Go, not proved from fmt's source: count such statements apart). THE CARD IS WHAT COUNTS. Prove the row's statement (the work); the ties are given (YtabfnphbbdklgaaDoorTie.lean); close each card by the builder's one call (the guide's Derived/Test/ToyasCard.lean, 'card_holds'). Laid BY PROGRAM, IN A SANDBOX (cutbox-door.mjs). By AI agents, Wed Nov 11 2026. No macro, syntax, notation, axiom, sorry.
-/
import Derived.Test.YtabfnphbbdklgaaDoorRows
import GoSem.ClaimSeven
namespace Go.Proofs.YtabfnphbbdklgaaDoor
namespace Rows

/-- THE TIED CARD OF 'phosphorlaw03.CardLoads'. -/
def cardLoadsCard : Claim7 := { stood := { row := cardLoadsRow, standIns := [], harness := (true, "7868cf388bfeb461d841a32b5f4fd10cba918c0928488dc1aec46b30f0b64366"), looks := true }, kinds := [], alts := [], laidByText := true, laidKinds := [.handle], laidTests := true, laidLooks := .later }
def CardLoadsCardSaid : Prop := Claim7.holds Tryd.pinned (.plain (OpenSpec.ofChange cardLoadsSpec)) cardLoadsCard

/-- THE TIED CARD OF 'phosphorlaw03.CardHeader'. -/
def cardHeaderCard : Claim7 := { stood := { row := cardHeaderRow, standIns := [], harness := (true, "7868cf388bfeb461d841a32b5f4fd10cba918c0928488dc1aec46b30f0b64366"), looks := true }, kinds := [], alts := [], laidByText := true, laidKinds := [.handle], laidTests := true, laidLooks := .later }
def CardHeaderCardSaid : Prop := Claim7.holds Tryd.pinned (.plain (OpenSpec.ofChange cardHeaderSpec)) cardHeaderCard

/-- THE TIED CARD OF 'phosphorlaw03.CardTells'. -/
def cardTellsCard : Claim7 := { stood := { row := cardTellsRow, standIns := [], harness := (true, "7868cf388bfeb461d841a32b5f4fd10cba918c0928488dc1aec46b30f0b64366"), looks := true }, kinds := [], alts := [], laidByText := true, laidKinds := [.handle], laidTests := true, laidLooks := .later }
def CardTellsCardSaid : Prop := Claim7.holds Tryd.pinned (.plain (OpenSpec.ofChange cardTellsSpec)) cardTellsCard

/-- THE SECOND FORM's CARD OF 'phosphorlaw03.CardLoads'. -/
def cardLoadsUptoCard : Claim7 := { stood := { row := cardLoadsUptoRow, standIns := [], harness := (true, "7868cf388bfeb461d841a32b5f4fd10cba918c0928488dc1aec46b30f0b64366"), looks := true }, kinds := [], alts := [], laidByText := true, laidKinds := [.handle], laidTests := true, laidLooks := .later }
def CardLoadsUptoCardSaid : Prop := Claim7.holds Tryd.pinned (.plain (OpenSpec.upto cardLoadsSpec)) cardLoadsUptoCard

/-- THE SECOND FORM's CARD OF 'phosphorlaw03.CardHeader'. -/
def cardHeaderUptoCard : Claim7 := { stood := { row := cardHeaderUptoRow, standIns := [], harness := (true, "7868cf388bfeb461d841a32b5f4fd10cba918c0928488dc1aec46b30f0b64366"), looks := true }, kinds := [], alts := [], laidByText := true, laidKinds := [.handle], laidTests := true, laidLooks := .later }
def CardHeaderUptoCardSaid : Prop := Claim7.holds Tryd.pinned (.plain (OpenSpec.upto cardHeaderSpec)) cardHeaderUptoCard

/-- THE SECOND FORM's CARD OF 'phosphorlaw03.CardTells'. -/
def cardTellsUptoCard : Claim7 := { stood := { row := cardTellsUptoRow, standIns := [], harness := (true, "7868cf388bfeb461d841a32b5f4fd10cba918c0928488dc1aec46b30f0b64366"), looks := true }, kinds := [], alts := [], laidByText := true, laidKinds := [.handle], laidTests := true, laidLooks := .later }
def CardTellsUptoCardSaid : Prop := Claim7.holds Tryd.pinned (.plain (OpenSpec.upto cardTellsSpec)) cardTellsUptoCard
end Rows
end Go.Proofs.YtabfnphbbdklgaaDoor
