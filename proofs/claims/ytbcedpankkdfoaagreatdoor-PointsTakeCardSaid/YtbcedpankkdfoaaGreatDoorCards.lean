/-
  DERIVED. GIVEN WITH THE SEED: THE CARDS: each row of YtbcedpankkdfoaaGreatDoorRows.lean that lists a variable, with what it lists TIED to the program's text (the seventh form; the later family's looks); each row that meets fmt, with fmt's text TOLD by the authors' own Lean function (tested against real Go, not proved from fmt's source: count such statements apart). THE CARD IS WHAT COUNTS. Prove the row's statement (the work); the ties are given (YtbcedpankkdfoaaGreatDoorTie.lean); close each card by the builder's one call (the guide's Derived/Test/ToyasCard.lean, 'card_holds'). Laid BY PROGRAM, IN A SANDBOX (cutbox-door.mjs). By AI agents, Wed Nov 11 2026. No macro, syntax, notation, axiom, sorry.
-/
import Derived.Test.YtbcedpankkdfoaaGreatDoorRows
import GoSem.ClaimSeven
namespace Go.Proofs.YtbcedpankkdfoaaGreatDoor
namespace Rows

/-- THE TIED CARD OF 'quotalaw09.PoolNames'. -/
def poolNamesCard : Claim7 := { stood := { row := poolNamesRow, standIns := [], harness := (true, "7e320d5e903aa113a567a9d4bb6b6c13ab4635cff4a8c658b5db77162d7eaa57"), looks := true }, kinds := [], alts := [], laidByText := true, laidKinds := [.handle, .data, .widerDeep, .widerDeep, .widerDeep], laidTests := true, laidLooks := .later }
def PoolNamesCardSaid : Prop := Claim7.holds Tryz.pinned (.plain (OpenSpec.ofChange poolNamesSpec)) poolNamesCard

/-- THE TIED CARD OF 'quotalaw09.PoolKeeps'. -/
def poolKeepsCard : Claim7 := { stood := { row := poolKeepsRow, standIns := [], harness := (true, "7e320d5e903aa113a567a9d4bb6b6c13ab4635cff4a8c658b5db77162d7eaa57"), looks := true }, kinds := [], alts := [], laidByText := true, laidKinds := [.handle, .data, .widerDeep, .widerDeep, .widerDeep], laidTests := true, laidLooks := .later }
def PoolKeepsCardSaid : Prop := Claim7.holds Tryz.pinned (.plain (OpenSpec.ofChange poolKeepsSpec)) poolKeepsCard

/-- THE TIED CARD OF 'quotalaw09.PoolNewMemory'. -/
def poolNewMemoryCard : Claim7 := { stood := { row := poolNewMemoryRow, standIns := [], harness := (true, "7e320d5e903aa113a567a9d4bb6b6c13ab4635cff4a8c658b5db77162d7eaa57"), looks := true }, kinds := [], alts := [], laidByText := true, laidKinds := [.handle, .data, .widerDeep, .widerDeep, .widerDeep], laidTests := true, laidLooks := .later }
def PoolNewMemoryCardSaid : Prop := Claim7.holds Tryz.pinned (.plain (OpenSpec.ofChange poolNewMemorySpec)) poolNewMemoryCard

/-- THE TIED CARD OF 'quotalaw09.PoolExact'. -/
def poolExactCard : Claim7 := { stood := { row := poolExactRow, standIns := [], harness := (true, "7e320d5e903aa113a567a9d4bb6b6c13ab4635cff4a8c658b5db77162d7eaa57"), looks := true }, kinds := [], alts := [], laidByText := true, laidKinds := [.handle, .data, .widerDeep, .widerDeep, .widerDeep], laidTests := true, laidLooks := .later }
def PoolExactCardSaid : Prop := Claim7.holds Tryz.pinned (.plain (OpenSpec.ofChange poolExactSpec)) poolExactCard

/-- THE TIED CARD OF 'quotalaw09.PoolOld'. -/
def poolOldCard : Claim7 := { stood := { row := poolOldRow, standIns := [], harness := (true, "7e320d5e903aa113a567a9d4bb6b6c13ab4635cff4a8c658b5db77162d7eaa57"), looks := true }, kinds := [], alts := [], laidByText := true, laidKinds := [.handle, .data, .widerDeep, .widerDeep, .widerDeep], laidTests := true, laidLooks := .later }
def PoolOldCardSaid : Prop := Claim7.holds Tryz.pinned (.plain (OpenSpec.ofChange poolOldSpec)) poolOldCard

/-- THE TIED CARD OF 'quotalaw09.PoolFirst'. -/
def poolFirstCard : Claim7 := { stood := { row := poolFirstRow, standIns := [], harness := (true, "7e320d5e903aa113a567a9d4bb6b6c13ab4635cff4a8c658b5db77162d7eaa57"), looks := true }, kinds := [], alts := [], laidByText := true, laidKinds := [.handle, .data, .widerDeep, .widerDeep, .widerDeep], laidTests := true, laidLooks := .later }
def PoolFirstCardSaid : Prop := Claim7.holds Tryz.pinned (.plain (OpenSpec.ofChange poolFirstSpec)) poolFirstCard

/-- THE TIED CARD OF 'quotalaw18.RedoNames'. -/
def redoNamesCard : Claim7 := { stood := { row := redoNamesRow, standIns := [], harness := (true, "7e320d5e903aa113a567a9d4bb6b6c13ab4635cff4a8c658b5db77162d7eaa57"), looks := true }, kinds := [], alts := [], laidByText := true, laidKinds := [.handle, .data, .widerDeep, .widerDeep, .widerDeep], laidTests := true, laidLooks := .later }
def RedoNamesCardSaid : Prop := Claim7.holds Tryz.pinned (.plain (OpenSpec.ofChange redoNamesSpec)) redoNamesCard

/-- THE TIED CARD OF 'quotalaw18.RedoHistory'. -/
def redoHistoryCard : Claim7 := { stood := { row := redoHistoryRow, standIns := [], harness := (true, "7e320d5e903aa113a567a9d4bb6b6c13ab4635cff4a8c658b5db77162d7eaa57"), looks := true }, kinds := [], alts := [], laidByText := true, laidKinds := [.handle, .data, .widerDeep, .widerDeep, .widerDeep], laidTests := true, laidLooks := .later }
def RedoHistoryCardSaid : Prop := Claim7.holds Tryz.pinned (.plain (OpenSpec.ofChange redoHistorySpec)) redoHistoryCard

/-- THE TIED CARD OF 'quotalaw18.RedoCounts'. -/
def redoCountsCard : Claim7 := { stood := { row := redoCountsRow, standIns := [], harness := (true, "7e320d5e903aa113a567a9d4bb6b6c13ab4635cff4a8c658b5db77162d7eaa57"), looks := true }, kinds := [], alts := [], laidByText := true, laidKinds := [.handle, .data, .widerDeep, .widerDeep, .widerDeep], laidTests := true, laidLooks := .later }
def RedoCountsCardSaid : Prop := Claim7.holds Tryz.pinned (.plain (OpenSpec.ofChange redoCountsSpec)) redoCountsCard

/-- THE TIED CARD OF 'quotalaw18.RedoAgain'. -/
def redoAgainCard : Claim7 := { stood := { row := redoAgainRow, standIns := [], harness := (true, "7e320d5e903aa113a567a9d4bb6b6c13ab4635cff4a8c658b5db77162d7eaa57"), looks := true }, kinds := [], alts := [], laidByText := true, laidKinds := [.handle, .data, .widerDeep, .widerDeep, .widerDeep], laidTests := true, laidLooks := .later }
def RedoAgainCardSaid : Prop := Claim7.holds Tryz.pinned (.plain (OpenSpec.ofChange redoAgainSpec)) redoAgainCard

/-- THE TIED CARD OF 'quotalaw18.RedoExact'. -/
def redoExactCard : Claim7 := { stood := { row := redoExactRow, standIns := [], harness := (true, "7e320d5e903aa113a567a9d4bb6b6c13ab4635cff4a8c658b5db77162d7eaa57"), looks := true }, kinds := [], alts := [], laidByText := true, laidKinds := [.handle, .data, .widerDeep, .widerDeep, .widerDeep], laidTests := true, laidLooks := .later }
def RedoExactCardSaid : Prop := Claim7.holds Tryz.pinned (.plain (OpenSpec.ofChange redoExactSpec)) redoExactCard

/-- THE TIED CARD OF 'quotalaw16.PointsTake'. -/
def pointsTakeCard : Claim7 := { stood := { row := pointsTakeRow, standIns := [], harness := (true, "7e320d5e903aa113a567a9d4bb6b6c13ab4635cff4a8c658b5db77162d7eaa57"), looks := true }, kinds := [], alts := [], laidByText := true, laidKinds := [.handle, .data, .widerDeep, .widerDeep, .widerDeep], laidTests := true, laidLooks := .later }
def PointsTakeCardSaid : Prop := Claim7.holds Tryz.pinned (.plain (OpenSpec.ofChange pointsTakeSpec)) pointsTakeCard

/-- THE SECOND FORM's CARD OF 'quotalaw09.PoolNames'. -/
def poolNamesUptoCard : Claim7 := { stood := { row := poolNamesUptoRow, standIns := [], harness := (true, "7e320d5e903aa113a567a9d4bb6b6c13ab4635cff4a8c658b5db77162d7eaa57"), looks := true }, kinds := [], alts := [], laidByText := true, laidKinds := [.handle, .data, .widerDeep, .widerDeep, .widerDeep], laidTests := true, laidLooks := .later }
def PoolNamesUptoCardSaid : Prop := Claim7.holds Tryz.pinned (.plain (OpenSpec.upto poolNamesSpec)) poolNamesUptoCard

/-- THE SECOND FORM's CARD OF 'quotalaw09.PoolKeeps'. -/
def poolKeepsUptoCard : Claim7 := { stood := { row := poolKeepsUptoRow, standIns := [], harness := (true, "7e320d5e903aa113a567a9d4bb6b6c13ab4635cff4a8c658b5db77162d7eaa57"), looks := true }, kinds := [], alts := [], laidByText := true, laidKinds := [.handle, .data, .widerDeep, .widerDeep, .widerDeep], laidTests := true, laidLooks := .later }
def PoolKeepsUptoCardSaid : Prop := Claim7.holds Tryz.pinned (.plain (OpenSpec.upto poolKeepsSpec)) poolKeepsUptoCard

/-- THE SECOND FORM's CARD OF 'quotalaw09.PoolNewMemory'. -/
def poolNewMemoryUptoCard : Claim7 := { stood := { row := poolNewMemoryUptoRow, standIns := [], harness := (true, "7e320d5e903aa113a567a9d4bb6b6c13ab4635cff4a8c658b5db77162d7eaa57"), looks := true }, kinds := [], alts := [], laidByText := true, laidKinds := [.handle, .data, .widerDeep, .widerDeep, .widerDeep], laidTests := true, laidLooks := .later }
def PoolNewMemoryUptoCardSaid : Prop := Claim7.holds Tryz.pinned (.plain (OpenSpec.upto poolNewMemorySpec)) poolNewMemoryUptoCard

/-- THE SECOND FORM's CARD OF 'quotalaw09.PoolExact'. -/
def poolExactUptoCard : Claim7 := { stood := { row := poolExactUptoRow, standIns := [], harness := (true, "7e320d5e903aa113a567a9d4bb6b6c13ab4635cff4a8c658b5db77162d7eaa57"), looks := true }, kinds := [], alts := [], laidByText := true, laidKinds := [.handle, .data, .widerDeep, .widerDeep, .widerDeep], laidTests := true, laidLooks := .later }
def PoolExactUptoCardSaid : Prop := Claim7.holds Tryz.pinned (.plain (OpenSpec.upto poolExactSpec)) poolExactUptoCard

/-- THE SECOND FORM's CARD OF 'quotalaw09.PoolOld'. -/
def poolOldUptoCard : Claim7 := { stood := { row := poolOldUptoRow, standIns := [], harness := (true, "7e320d5e903aa113a567a9d4bb6b6c13ab4635cff4a8c658b5db77162d7eaa57"), looks := true }, kinds := [], alts := [], laidByText := true, laidKinds := [.handle, .data, .widerDeep, .widerDeep, .widerDeep], laidTests := true, laidLooks := .later }
def PoolOldUptoCardSaid : Prop := Claim7.holds Tryz.pinned (.plain (OpenSpec.upto poolOldSpec)) poolOldUptoCard

/-- THE SECOND FORM's CARD OF 'quotalaw09.PoolFirst'. -/
def poolFirstUptoCard : Claim7 := { stood := { row := poolFirstUptoRow, standIns := [], harness := (true, "7e320d5e903aa113a567a9d4bb6b6c13ab4635cff4a8c658b5db77162d7eaa57"), looks := true }, kinds := [], alts := [], laidByText := true, laidKinds := [.handle, .data, .widerDeep, .widerDeep, .widerDeep], laidTests := true, laidLooks := .later }
def PoolFirstUptoCardSaid : Prop := Claim7.holds Tryz.pinned (.plain (OpenSpec.upto poolFirstSpec)) poolFirstUptoCard

/-- THE SECOND FORM's CARD OF 'quotalaw18.RedoNames'. -/
def redoNamesUptoCard : Claim7 := { stood := { row := redoNamesUptoRow, standIns := [], harness := (true, "7e320d5e903aa113a567a9d4bb6b6c13ab4635cff4a8c658b5db77162d7eaa57"), looks := true }, kinds := [], alts := [], laidByText := true, laidKinds := [.handle, .data, .widerDeep, .widerDeep, .widerDeep], laidTests := true, laidLooks := .later }
def RedoNamesUptoCardSaid : Prop := Claim7.holds Tryz.pinned (.plain (OpenSpec.upto redoNamesSpec)) redoNamesUptoCard

/-- THE SECOND FORM's CARD OF 'quotalaw18.RedoHistory'. -/
def redoHistoryUptoCard : Claim7 := { stood := { row := redoHistoryUptoRow, standIns := [], harness := (true, "7e320d5e903aa113a567a9d4bb6b6c13ab4635cff4a8c658b5db77162d7eaa57"), looks := true }, kinds := [], alts := [], laidByText := true, laidKinds := [.handle, .data, .widerDeep, .widerDeep, .widerDeep], laidTests := true, laidLooks := .later }
def RedoHistoryUptoCardSaid : Prop := Claim7.holds Tryz.pinned (.plain (OpenSpec.upto redoHistorySpec)) redoHistoryUptoCard

/-- THE SECOND FORM's CARD OF 'quotalaw18.RedoCounts'. -/
def redoCountsUptoCard : Claim7 := { stood := { row := redoCountsUptoRow, standIns := [], harness := (true, "7e320d5e903aa113a567a9d4bb6b6c13ab4635cff4a8c658b5db77162d7eaa57"), looks := true }, kinds := [], alts := [], laidByText := true, laidKinds := [.handle, .data, .widerDeep, .widerDeep, .widerDeep], laidTests := true, laidLooks := .later }
def RedoCountsUptoCardSaid : Prop := Claim7.holds Tryz.pinned (.plain (OpenSpec.upto redoCountsSpec)) redoCountsUptoCard

/-- THE SECOND FORM's CARD OF 'quotalaw18.RedoAgain'. -/
def redoAgainUptoCard : Claim7 := { stood := { row := redoAgainUptoRow, standIns := [], harness := (true, "7e320d5e903aa113a567a9d4bb6b6c13ab4635cff4a8c658b5db77162d7eaa57"), looks := true }, kinds := [], alts := [], laidByText := true, laidKinds := [.handle, .data, .widerDeep, .widerDeep, .widerDeep], laidTests := true, laidLooks := .later }
def RedoAgainUptoCardSaid : Prop := Claim7.holds Tryz.pinned (.plain (OpenSpec.upto redoAgainSpec)) redoAgainUptoCard

/-- THE SECOND FORM's CARD OF 'quotalaw18.RedoExact'. -/
def redoExactUptoCard : Claim7 := { stood := { row := redoExactUptoRow, standIns := [], harness := (true, "7e320d5e903aa113a567a9d4bb6b6c13ab4635cff4a8c658b5db77162d7eaa57"), looks := true }, kinds := [], alts := [], laidByText := true, laidKinds := [.handle, .data, .widerDeep, .widerDeep, .widerDeep], laidTests := true, laidLooks := .later }
def RedoExactUptoCardSaid : Prop := Claim7.holds Tryz.pinned (.plain (OpenSpec.upto redoExactSpec)) redoExactUptoCard

/-- THE SECOND FORM's CARD OF 'quotalaw16.PointsTake'. -/
def pointsTakeUptoCard : Claim7 := { stood := { row := pointsTakeUptoRow, standIns := [], harness := (true, "7e320d5e903aa113a567a9d4bb6b6c13ab4635cff4a8c658b5db77162d7eaa57"), looks := true }, kinds := [], alts := [], laidByText := true, laidKinds := [.handle, .data, .widerDeep, .widerDeep, .widerDeep], laidTests := true, laidLooks := .later }
def PointsTakeUptoCardSaid : Prop := Claim7.holds Tryz.pinned (.plain (OpenSpec.upto pointsTakeSpec)) pointsTakeUptoCard
end Rows
end Go.Proofs.YtbcedpankkdfoaaGreatDoor
