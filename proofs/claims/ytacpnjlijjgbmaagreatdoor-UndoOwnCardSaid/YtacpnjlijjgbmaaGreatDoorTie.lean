/-
  DERIVED. GIVEN WITH THE SEED: THE PROGRAM's TIES (one call each: nine closed facts by the kernel) AND EACH ROW's TIE, after the 31st guide's Derived/Test/Toyas{Tie, Card}.lean. No idea stands in it: it is a product of the set-up. Laid BY PROGRAM, IN A SANDBOX (cutbox-door.mjs). By AI agents, Wed Nov 11 2026. No macro, syntax, notation, axiom, sorry.
-/
import Derived.Test.YtacpnjlijjgbmaaGreatDoorRows
import Derived.LaidByTextLater
import Derived.SevenTiedAt
import Derived.LaidSub
import Derived.LaidOnce
namespace Go.Proofs.YtacpnjlijjgbmaaGreatDoor
open Go
set_option maxRecDepth 100000
theorem seatTie1 : Tryz.prog.laidByTextLater [("errors.errorType", Rows.laid_errors_errorType), ("quota/field.nibbles", Rows.laid_quota_field_nibbles), ("quota/page.headSizes", Rows.laid_quota_page_headSizes), ("quota/page.counterSizes", Rows.laid_quota_page_counterSizes), ("quota/page.groupSizes", Rows.laid_quota_page_groupSizes)] [.handle, .data, .widerDeep, .widerDeep, .widerDeep] true :=
  Program.laidByTextLater_by_one 36 8 17 (by kernel_rfl) (by kernel_rfl) (by kernel_rfl) (by kernel_rfl) (by kernel_rfl) (by kernel_rfl) (fun _ _ => by kernel_rfl)
theorem noOwnUnsafe : Tryz.pinned.checked.prog.headLifts.contains "ownunsafe" = false := by kernel_rfl
theorem tie : Tryz.prog.laidByTextLater [("errors.errorType", Rows.laid_errors_errorType), ("quota/field.nibbles", Rows.laid_quota_field_nibbles), ("quota/page.headSizes", Rows.laid_quota_page_headSizes), ("quota/page.counterSizes", Rows.laid_quota_page_counterSizes), ("quota/page.groupSizes", Rows.laid_quota_page_groupSizes)] [.handle, .data, .widerDeep, .widerDeep, .widerDeep] true :=
  Program.laidByTextLater.sub seatTie1 ["errors.errorType", "quota/field.nibbles", "quota/page.headSizes", "quota/page.counterSizes", "quota/page.groupSizes"] (by kernel_rfl) (by kernel_rfl)
theorem undoLefts_row_tie : Rows.undoLeftsRow.laidByTextAt .later Tryz.pinned [.handle, .data, .widerDeep, .widerDeep, .widerDeep] true :=
  OpenClaim.laidByTextAt_later rfl rfl tie noOwnUnsafe
theorem undoOwn_row_tie : Rows.undoOwnRow.laidByTextAt .later Tryz.pinned [.handle, .data, .widerDeep, .widerDeep, .widerDeep] true :=
  OpenClaim.laidByTextAt_later rfl rfl tie noOwnUnsafe
theorem undoLeftsUpto_row_tie : Rows.undoLeftsUptoRow.laidByTextAt .later Tryz.pinned [.handle, .data, .widerDeep, .widerDeep, .widerDeep] true :=
  OpenClaim.laidByTextAt_later rfl rfl tie noOwnUnsafe
theorem undoOwnUpto_row_tie : Rows.undoOwnUptoRow.laidByTextAt .later Tryz.pinned [.handle, .data, .widerDeep, .widerDeep, .widerDeep] true :=
  OpenClaim.laidByTextAt_later rfl rfl tie noOwnUnsafe
end Go.Proofs.YtacpnjlijjgbmaaGreatDoor
