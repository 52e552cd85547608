/-
  DERIVED. GIVEN WITH THE SEED: THE CARDS: each row of YtiajhfodfhmfaaaGreatDoorRows.lean that lists a variable, with what it lists TIED to the program's text (the seventh form; the later family's looks); each row that meets fmt, with fmt's text TOLD by the authors' own Lean function (tested against real Go, not proved from fmt's source: count such statements apart). THE CARD IS WHAT COUNTS. Prove the row's statement (the work); the ties are given (YtiajhfodfhmfaaaGreatDoorTie.lean); close each card by the builder's one call (the guide's Derived/Test/ToyasCard.lean, 'card_holds'). Laid BY PROGRAM, IN A SANDBOX (cutbox-door.mjs). By AI agents, Wed Nov 11 2026. No macro, syntax, notation, axiom, sorry.
-/
import Derived.Test.YtiajhfodfhmfaaaGreatDoorRows
import GoSem.ClaimSeven
namespace Go.Proofs.YtiajhfodfhmfaaaGreatDoor
namespace Rows

/-- THE TIED CARD OF 'constablelaw23.FireOver'. -/
def fireOverCard : Claim7 := { stood := { row := fireOverRow, standIns := [], harness := (true, "58a362969a0f91a04b3b364fbec46e84572a79090011637bb8decf5a7299017d"), looks := true }, kinds := [], alts := [], laidByText := true, laidKinds := [.data, .data, .data, .data, .sentinel, .sentinel, .pinned], laidTests := true, laidLooks := .later }
def FireOverCardSaid : Prop := Claim7.holds Tryz.pinned (.plain (OpenSpec.ofChange fireOverSpec)) fireOverCard

/-- THE TIED CARD OF 'constablelaw23.FireSmall'. -/
def fireSmallCard : Claim7 := { stood := { row := fireSmallRow, standIns := [], harness := (true, "58a362969a0f91a04b3b364fbec46e84572a79090011637bb8decf5a7299017d"), looks := true }, kinds := [], alts := [], laidByText := true, laidKinds := [.data, .data, .data, .data, .sentinel, .sentinel, .pinned], laidTests := true, laidLooks := .later }
def FireSmallCardSaid : Prop := Claim7.holds Tryz.pinned (.plain (OpenSpec.ofChange fireSmallSpec)) fireSmallCard

/-- THE TIED CARD OF 'constablelaw24.RunCounter'. -/
def runCounterCard : Claim7 := { stood := { row := runCounterRow, standIns := [], harness := (true, "58a362969a0f91a04b3b364fbec46e84572a79090011637bb8decf5a7299017d"), looks := true }, kinds := [], alts := [], laidByText := true, laidKinds := [.data, .data, .data, .data, .sentinel, .sentinel, .pinned], laidTests := true, laidLooks := .later }
def RunCounterCardSaid : Prop := Claim7.holds Tryz.pinned (.plain (OpenSpec.ofChange runCounterSpec)) runCounterCard

/-- THE SECOND FORM's CARD OF 'constablelaw23.FireOver'. -/
def fireOverUptoCard : Claim7 := { stood := { row := fireOverUptoRow, standIns := [], harness := (true, "58a362969a0f91a04b3b364fbec46e84572a79090011637bb8decf5a7299017d"), looks := true }, kinds := [], alts := [], laidByText := true, laidKinds := [.data, .data, .data, .data, .sentinel, .sentinel, .pinned], laidTests := true, laidLooks := .later }
def FireOverUptoCardSaid : Prop := Claim7.holds Tryz.pinned (.plain (OpenSpec.upto fireOverSpec)) fireOverUptoCard

/-- THE SECOND FORM's CARD OF 'constablelaw23.FireSmall'. -/
def fireSmallUptoCard : Claim7 := { stood := { row := fireSmallUptoRow, standIns := [], harness := (true, "58a362969a0f91a04b3b364fbec46e84572a79090011637bb8decf5a7299017d"), looks := true }, kinds := [], alts := [], laidByText := true, laidKinds := [.data, .data, .data, .data, .sentinel, .sentinel, .pinned], laidTests := true, laidLooks := .later }
def FireSmallUptoCardSaid : Prop := Claim7.holds Tryz.pinned (.plain (OpenSpec.upto fireSmallSpec)) fireSmallUptoCard

/-- THE SECOND FORM's CARD OF 'constablelaw24.RunCounter'. -/
def runCounterUptoCard : Claim7 := { stood := { row := runCounterUptoRow, standIns := [], harness := (true, "58a362969a0f91a04b3b364fbec46e84572a79090011637bb8decf5a7299017d"), looks := true }, kinds := [], alts := [], laidByText := true, laidKinds := [.data, .data, .data, .data, .sentinel, .sentinel, .pinned], laidTests := true, laidLooks := .later }
def RunCounterUptoCardSaid : Prop := Claim7.holds Tryz.pinned (.plain (OpenSpec.upto runCounterSpec)) runCounterUptoCard
end Rows
end Go.Proofs.YtiajhfodfhmfaaaGreatDoor
