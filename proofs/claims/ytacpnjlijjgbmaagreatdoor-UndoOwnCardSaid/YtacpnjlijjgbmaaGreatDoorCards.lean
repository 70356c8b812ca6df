/-
  DERIVED. GIVEN WITH THE SEED: THE CARDS: each row of YtacpnjlijjgbmaaGreatDoorRows.lean that lists a variable, with what it lists TIED to the program's text (the seventh form; the later family's looks); each row that meets fmt, with fmt's text TOLD by the authors' own Lean function (tested against real Go, not proved from fmt's source: count such statements apart). THE CARD IS WHAT COUNTS. Prove the row's statement (the work); the ties are given (YtacpnjlijjgbmaaGreatDoorTie.lean); close each card by the builder's one call (the guide's Derived/Test/ToyasCard.lean, 'card_holds'). Laid BY PROGRAM, IN A SANDBOX (cutbox-door.mjs). By AI agents, Wed Nov 11 2026. No macro, syntax, notation, axiom, sorry.
-/
import Derived.Test.YtacpnjlijjgbmaaGreatDoorRows
import GoSem.ClaimSeven
namespace Go.Proofs.YtacpnjlijjgbmaaGreatDoor
namespace Rows

/-- THE TIED CARD OF 'quotalaw19.UndoLefts'. -/
def undoLeftsCard : Claim7 := { stood := { row := undoLeftsRow, standIns := [], harness := (true, "085946d4a8e63684ba17a1d4c5410e6bf7587c28f82e077f26156d4207a194cd"), looks := true }, kinds := [], alts := [], laidByText := true, laidKinds := [.handle, .data, .widerDeep, .widerDeep, .widerDeep], laidTests := true, laidLooks := .later }
def UndoLeftsCardSaid : Prop := Claim7.holds Tryz.pinned (.plain (OpenSpec.ofChange undoLeftsSpec)) undoLeftsCard

/-- THE TIED CARD OF 'quotalaw19.UndoOwn'. -/
def undoOwnCard : Claim7 := { stood := { row := undoOwnRow, standIns := [], harness := (true, "085946d4a8e63684ba17a1d4c5410e6bf7587c28f82e077f26156d4207a194cd"), looks := true }, kinds := [], alts := [], laidByText := true, laidKinds := [.handle, .data, .widerDeep, .widerDeep, .widerDeep], laidTests := true, laidLooks := .later }
def UndoOwnCardSaid : Prop := Claim7.holds Tryz.pinned (.plain (OpenSpec.ofChange undoOwnSpec)) undoOwnCard

/-- THE SECOND FORM's CARD OF 'quotalaw19.UndoLefts'. -/
def undoLeftsUptoCard : Claim7 := { stood := { row := undoLeftsUptoRow, standIns := [], harness := (true, "085946d4a8e63684ba17a1d4c5410e6bf7587c28f82e077f26156d4207a194cd"), looks := true }, kinds := [], alts := [], laidByText := true, laidKinds := [.handle, .data, .widerDeep, .widerDeep, .widerDeep], laidTests := true, laidLooks := .later }
def UndoLeftsUptoCardSaid : Prop := Claim7.holds Tryz.pinned (.plain (OpenSpec.upto undoLeftsSpec)) undoLeftsUptoCard

/-- THE SECOND FORM's CARD OF 'quotalaw19.UndoOwn'. -/
def undoOwnUptoCard : Claim7 := { stood := { row := undoOwnUptoRow, standIns := [], harness := (true, "085946d4a8e63684ba17a1d4c5410e6bf7587c28f82e077f26156d4207a194cd"), looks := true }, kinds := [], alts := [], laidByText := true, laidKinds := [.handle, .data, .widerDeep, .widerDeep, .widerDeep], laidTests := true, laidLooks := .later }
def UndoOwnUptoCardSaid : Prop := Claim7.holds Tryz.pinned (.plain (OpenSpec.upto undoOwnSpec)) undoOwnUptoCard
end Rows
end Go.Proofs.YtacpnjlijjgbmaaGreatDoor
