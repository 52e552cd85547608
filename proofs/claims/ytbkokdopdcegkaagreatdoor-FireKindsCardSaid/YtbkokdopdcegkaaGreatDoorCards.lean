/-
  DERIVED. GIVEN WITH THE SEED: THE CARDS: each row of YtbkokdopdcegkaaGreatDoorRows.lean that lists a variable, with what it lists TIED to the program's text (the seventh form; the later family's looks); each row that meets fmt, with fmt's text TOLD by the authors' own Lean function (tested against real Go, not proved from fmt's source: count such statements apart). THE CARD IS WHAT COUNTS. Prove the row's statement (the work); the ties are given (YtbkokdopdcegkaaGreatDoorTie.lean); close each card by the builder's one call (the guide's Derived/Test/ToyasCard.lean, 'card_holds'). Laid BY PROGRAM, IN A SANDBOX (cutbox-door.mjs). By AI agents, Wed Nov 11 2026. No macro, syntax, notation, axiom, sorry.
-/
import Derived.Test.YtbkokdopdcegkaaGreatDoorRows
import GoSem.ClaimSeven
namespace Go.Proofs.YtbkokdopdcegkaaGreatDoor
namespace Rows

/-- THE TIED CARD OF 'constablelaw23.FireKinds'. -/
def fireKindsCard : Claim7 := { stood := { row := fireKindsRow, standIns := [], harness := (true, "d06f407e0cc3f2d3045dc2af232416849c35266fa5be03da5e2963c7ab8447a4"), looks := true }, kinds := [], alts := [], laidByText := true, laidKinds := [.data, .data, .data, .data, .sentinel, .sentinel, .pinned], laidTests := true, laidLooks := .later }
def FireKindsCardSaid : Prop := Claim7.holds Tryz.pinned (.plain (OpenSpec.ofChange fireKindsSpec)) fireKindsCard

/-- THE TIED CARD OF 'constablelaw24.RunNone'. -/
def runNoneCard : Claim7 := { stood := { row := runNoneRow, standIns := [], harness := (true, "d06f407e0cc3f2d3045dc2af232416849c35266fa5be03da5e2963c7ab8447a4"), looks := true }, kinds := [], alts := [], laidByText := true, laidKinds := [.data, .data, .data, .data, .sentinel, .sentinel, .pinned], laidTests := true, laidLooks := .later }
def RunNoneCardSaid : Prop := Claim7.holds Tryz.pinned (.plain (OpenSpec.ofChange runNoneSpec)) runNoneCard

/-- THE TIED CARD OF 'constablelaw26.TransKinds'. -/
def transKindsCard : Claim7 := { stood := { row := transKindsRow, standIns := [], harness := (true, "d06f407e0cc3f2d3045dc2af232416849c35266fa5be03da5e2963c7ab8447a4"), looks := true }, kinds := [], alts := [], laidByText := true, laidKinds := [.data, .data, .data, .data, .sentinel, .sentinel, .pinned], laidTests := true, laidLooks := .later }
def TransKindsCardSaid : Prop := Claim7.holds Tryz.pinned (.plain (OpenSpec.ofChange transKindsSpec)) transKindsCard

/-- THE SECOND FORM's CARD OF 'constablelaw23.FireKinds'. -/
def fireKindsUptoCard : Claim7 := { stood := { row := fireKindsUptoRow, standIns := [], harness := (true, "d06f407e0cc3f2d3045dc2af232416849c35266fa5be03da5e2963c7ab8447a4"), looks := true }, kinds := [], alts := [], laidByText := true, laidKinds := [.data, .data, .data, .data, .sentinel, .sentinel, .pinned], laidTests := true, laidLooks := .later }
def FireKindsUptoCardSaid : Prop := Claim7.holds Tryz.pinned (.plain (OpenSpec.upto fireKindsSpec)) fireKindsUptoCard

/-- THE SECOND FORM's CARD OF 'constablelaw24.RunNone'. -/
def runNoneUptoCard : Claim7 := { stood := { row := runNoneUptoRow, standIns := [], harness := (true, "d06f407e0cc3f2d3045dc2af232416849c35266fa5be03da5e2963c7ab8447a4"), looks := true }, kinds := [], alts := [], laidByText := true, laidKinds := [.data, .data, .data, .data, .sentinel, .sentinel, .pinned], laidTests := true, laidLooks := .later }
def RunNoneUptoCardSaid : Prop := Claim7.holds Tryz.pinned (.plain (OpenSpec.upto runNoneSpec)) runNoneUptoCard

/-- THE SECOND FORM's CARD OF 'constablelaw26.TransKinds'. -/
def transKindsUptoCard : Claim7 := { stood := { row := transKindsUptoRow, standIns := [], harness := (true, "d06f407e0cc3f2d3045dc2af232416849c35266fa5be03da5e2963c7ab8447a4"), looks := true }, kinds := [], alts := [], laidByText := true, laidKinds := [.data, .data, .data, .data, .sentinel, .sentinel, .pinned], laidTests := true, laidLooks := .later }
def TransKindsUptoCardSaid : Prop := Claim7.holds Tryz.pinned (.plain (OpenSpec.upto transKindsSpec)) transKindsUptoCard
end Rows
end Go.Proofs.YtbkokdopdcegkaaGreatDoor
