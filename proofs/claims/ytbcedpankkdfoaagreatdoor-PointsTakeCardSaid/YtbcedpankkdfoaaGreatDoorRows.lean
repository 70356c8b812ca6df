/-
  NARROWER THAN 'FOR EVERY INPUT', by the rows' own cells (each row's printed sentence says how): PoolNames: laid · PoolKeeps: laid · PoolNewMemory: laid · PoolExact: laid · PoolOld: laid · PoolFirst: laid · RedoNames: laid · RedoHistory: laid · RedoCounts: laid · RedoAgain: laid · RedoExact: laid · PointsTake: laid.
  DERIVED. THE GIVEN ROWS OF THIS SEAT. 12 by the template 'for every input the law returns true; each argument reads behind the call as it read before'; 0 by the template 'total and deterministic' (their statements: YtbcedpankkdfoaaGreatDoorTotals.lean).
  GIVEN WITH THE SEED: the statements are not yours to turn. If you find one false, say at which input.
  Laid BY PROGRAM, IN A SANDBOX (cutbox-rows.mjs): the forced cells as the released guide's own fill.sh prints them over the translation 99b7c505a195a24b… (all of the seat's roots in one cut). By AI agents, Wed Nov 11 2026. No macro, syntax, notation, axiom, sorry.
-/
import Derived.Test.YtbcedpankkdfoaaGreatDoorChecked
import GoSem.Claim
import GoSem.ClaimJoined
import GoSem.ClaimMapViews
import Derived.JoinedTies
import Derived.KernelRfl
namespace Go.Proofs.YtbcedpankkdfoaaGreatDoor
/- THE CELL 'sum', in the pinned program and in every row, IS THE sha256 OF THE DUMP (.gsa) THAT YtbcedpankkdfoaaGreatDoorProg.lean LOADS. Nothing in Lean hashes anything: it is a label: what it is worth is what the hold of that sum in a sandbox is worth. -/
noncomputable def Tryz.pinned : Pinned := { name := "ytbcedpankkdfoaagreatdoor", sum := "99b7c505a195a24b23bb779b2bb66f440339fcdda0953af4831a3c4b3b86e6b7", checked := Tryz.checked }
namespace Rows
def none {H : Type} : Left H := { results := [], args := [] }

/- WHAT THE LISTED PACKAGE-LEVEL VARIABLES READ AS WHEN THE CALL BEGINS. Each datum BY PROGRAM (the guide's laid-datum.mjs) off the statement by which the dump's own 'gosem.cut.vars' lays the variable. In a bare row this is a premise. The card (YtbcedpankkdfoaaGreatDoorCards.lean) ties it to the program's text. -/
def laid_errors_errorType {H : Type} : DataW H := .iface "internal/reflectlite.rtype" (.agg [.ptr (.lit (.string [101, 114, 114, 111, 114]))])
def laid_quota_field_nibbles {H : Type} : DataW H := .agg [.lit (.int .u32 0), .lit (.int .u32 498536548), .lit (.int .u32 997073096), .lit (.int .u32 651767980), .lit (.int .u32 1994146192), .lit (.int .u32 1802195444), .lit (.int .u32 1303535960), .lit (.int .u32 1342533948), .lit (.int .u32 3988292384), .lit (.int .u32 4027552580), .lit (.int .u32 3604390888), .lit (.int .u32 3412177804), .lit (.int .u32 2607071920), .lit (.int .u32 2262029012), .lit (.int .u32 2685067896), .lit (.int .u32 3183342108)]
def laid_quota_page_headSizes {H : Type} : DataW H := .slice [.lit (.int .i64 1), .lit (.int .i64 1), .lit (.int .i64 2), .lit (.int .i64 2), .lit (.int .i64 2), .lit (.int .i64 4)] []
def laid_quota_page_counterSizes {H : Type} : DataW H := .slice [.lit (.int .i64 4), .lit (.int .i64 4), .lit (.int .i64 8), .lit (.int .i64 8), .lit (.int .i64 8)] []
def laid_quota_page_groupSizes {H : Type} : DataW H := .slice [.lit (.int .i64 4), .lit (.int .i64 8)] []

/-- 'quotalaw09.PoolNames': WHATEVER THE INPUT: true; the input reads as it did. -/
def poolNamesSpec : ChangeSpec := { name := "poolNames", fn := fun _ => fun
  | [] => { results := [.lit (.bool true)], args := [] }
  | _ => none }
def poolNamesRow : OpenClaim := { program := "ytbcedpankkdfoaagreatdoor", sum := "99b7c505a195a24b23bb779b2bb66f440339fcdda0953af4831a3c4b3b86e6b7", func := "quota/quotalaw09.PoolNames", spec := "poolNames", inPlace := ["internal/reflectlite.ValueOf", "(internal/reflectlite.Value).Type", "(internal/reflectlite.Value).IsNil", "internal/reflectlite.TypeOf", "(internal/reflectlite.Value).Elem", "(internal/reflectlite.Value).Set"], unfollowed := true, recurses := true, named := ["errors.errorType", "quota/page.headSizes", "quota/page.counterSizes", "quota/page.groupSizes", "quota/field.nibbles"], apart := false, laid := [("errors.errorType", laid_errors_errorType), ("quota/field.nibbles", laid_quota_field_nibbles), ("quota/page.headSizes", laid_quota_page_headSizes), ("quota/page.counterSizes", laid_quota_page_counterSizes), ("quota/page.groupSizes", laid_quota_page_groupSizes)] }
def PoolNamesSaid : Prop := poolNamesRow.holds Tryz.pinned (OpenSpec.ofChange poolNamesSpec)

/-- ITS FALSE NEIGHBOUR: 'it returns false'. Refute it at one input. -/
def poolNamesWrong : ChangeSpec := { name := "poolNames", fn := fun _ => fun
  | [] => { results := [.lit (.bool false)], args := [] }
  | _ => none }
def PoolNamesWrongFalsely : Prop := poolNamesRow.holds Tryz.pinned (OpenSpec.ofChange poolNamesWrong)

/-- 'quotalaw09.PoolKeeps': WHATEVER THE INPUT: true; the input reads as it did. -/
def poolKeepsSpec : ChangeSpec := { name := "poolKeeps", fn := fun _ => fun
  | [d1, d2] => { results := [.lit (.bool true)], args := [d1, d2] }
  | _ => none }
def poolKeepsRow : OpenClaim := { program := "ytbcedpankkdfoaagreatdoor", sum := "99b7c505a195a24b23bb779b2bb66f440339fcdda0953af4831a3c4b3b86e6b7", func := "quota/quotalaw09.PoolKeeps", spec := "poolKeeps", inPlace := ["internal/reflectlite.ValueOf", "(internal/reflectlite.Value).Type", "(internal/reflectlite.Value).IsNil", "internal/reflectlite.TypeOf", "(internal/reflectlite.Value).Elem", "(internal/reflectlite.Value).Set"], unfollowed := true, recurses := true, named := ["errors.errorType", "quota/page.headSizes", "quota/page.counterSizes", "quota/page.groupSizes", "quota/field.nibbles"], apart := false, laid := [("errors.errorType", laid_errors_errorType), ("quota/field.nibbles", laid_quota_field_nibbles), ("quota/page.headSizes", laid_quota_page_headSizes), ("quota/page.counterSizes", laid_quota_page_counterSizes), ("quota/page.groupSizes", laid_quota_page_groupSizes)] }
def PoolKeepsSaid : Prop := poolKeepsRow.holds Tryz.pinned (OpenSpec.ofChange poolKeepsSpec)

/-- ITS FALSE NEIGHBOUR: 'it returns false'. Refute it at one input. -/
def poolKeepsWrong : ChangeSpec := { name := "poolKeeps", fn := fun _ => fun
  | [d1, d2] => { results := [.lit (.bool false)], args := [d1, d2] }
  | _ => none }
def PoolKeepsWrongFalsely : Prop := poolKeepsRow.holds Tryz.pinned (OpenSpec.ofChange poolKeepsWrong)

/-- 'quotalaw09.PoolNewMemory': WHATEVER THE INPUT: true; the input reads as it did. -/
def poolNewMemorySpec : ChangeSpec := { name := "poolNewMemory", fn := fun _ => fun
  | [d1, d2] => { results := [.lit (.bool true)], args := [d1, d2] }
  | _ => none }
def poolNewMemoryRow : OpenClaim := { program := "ytbcedpankkdfoaagreatdoor", sum := "99b7c505a195a24b23bb779b2bb66f440339fcdda0953af4831a3c4b3b86e6b7", func := "quota/quotalaw09.PoolNewMemory", spec := "poolNewMemory", inPlace := ["internal/reflectlite.ValueOf", "(internal/reflectlite.Value).Type", "(internal/reflectlite.Value).IsNil", "internal/reflectlite.TypeOf", "(internal/reflectlite.Value).Elem", "(internal/reflectlite.Value).Set"], unfollowed := true, recurses := true, named := ["errors.errorType", "quota/page.headSizes", "quota/page.counterSizes", "quota/page.groupSizes", "quota/field.nibbles"], apart := false, laid := [("errors.errorType", laid_errors_errorType), ("quota/field.nibbles", laid_quota_field_nibbles), ("quota/page.headSizes", laid_quota_page_headSizes), ("quota/page.counterSizes", laid_quota_page_counterSizes), ("quota/page.groupSizes", laid_quota_page_groupSizes)] }
def PoolNewMemorySaid : Prop := poolNewMemoryRow.holds Tryz.pinned (OpenSpec.ofChange poolNewMemorySpec)

/-- ITS FALSE NEIGHBOUR: 'it returns false'. Refute it at one input. -/
def poolNewMemoryWrong : ChangeSpec := { name := "poolNewMemory", fn := fun _ => fun
  | [d1, d2] => { results := [.lit (.bool false)], args := [d1, d2] }
  | _ => none }
def PoolNewMemoryWrongFalsely : Prop := poolNewMemoryRow.holds Tryz.pinned (OpenSpec.ofChange poolNewMemoryWrong)

/-- 'quotalaw09.PoolExact': WHATEVER THE INPUT: true; the input reads as it did. -/
def poolExactSpec : ChangeSpec := { name := "poolExact", fn := fun _ => fun
  | [d1, d2] => { results := [.lit (.bool true)], args := [d1, d2] }
  | _ => none }
def poolExactRow : OpenClaim := { program := "ytbcedpankkdfoaagreatdoor", sum := "99b7c505a195a24b23bb779b2bb66f440339fcdda0953af4831a3c4b3b86e6b7", func := "quota/quotalaw09.PoolExact", spec := "poolExact", inPlace := ["internal/reflectlite.ValueOf", "(internal/reflectlite.Value).Type", "(internal/reflectlite.Value).IsNil", "internal/reflectlite.TypeOf", "(internal/reflectlite.Value).Elem", "(internal/reflectlite.Value).Set"], unfollowed := true, recurses := true, named := ["errors.errorType", "quota/page.headSizes", "quota/page.counterSizes", "quota/page.groupSizes", "quota/field.nibbles"], apart := false, laid := [("errors.errorType", laid_errors_errorType), ("quota/field.nibbles", laid_quota_field_nibbles), ("quota/page.headSizes", laid_quota_page_headSizes), ("quota/page.counterSizes", laid_quota_page_counterSizes), ("quota/page.groupSizes", laid_quota_page_groupSizes)] }
def PoolExactSaid : Prop := poolExactRow.holds Tryz.pinned (OpenSpec.ofChange poolExactSpec)

/-- ITS FALSE NEIGHBOUR: 'it returns false'. Refute it at one input. -/
def poolExactWrong : ChangeSpec := { name := "poolExact", fn := fun _ => fun
  | [d1, d2] => { results := [.lit (.bool false)], args := [d1, d2] }
  | _ => none }
def PoolExactWrongFalsely : Prop := poolExactRow.holds Tryz.pinned (OpenSpec.ofChange poolExactWrong)

/-- 'quotalaw09.PoolOld': WHATEVER THE INPUT: true; the input reads as it did. -/
def poolOldSpec : ChangeSpec := { name := "poolOld", fn := fun _ => fun
  | [d1, d2, d3, d4] => { results := [.lit (.bool true)], args := [d1, d2, d3, d4] }
  | _ => none }
def poolOldRow : OpenClaim := { program := "ytbcedpankkdfoaagreatdoor", sum := "99b7c505a195a24b23bb779b2bb66f440339fcdda0953af4831a3c4b3b86e6b7", func := "quota/quotalaw09.PoolOld", spec := "poolOld", inPlace := ["internal/reflectlite.ValueOf", "(internal/reflectlite.Value).Type", "(internal/reflectlite.Value).IsNil", "internal/reflectlite.TypeOf", "(internal/reflectlite.Value).Elem", "(internal/reflectlite.Value).Set"], unfollowed := true, recurses := true, named := ["errors.errorType", "quota/page.headSizes", "quota/page.counterSizes", "quota/page.groupSizes", "quota/field.nibbles"], apart := false, laid := [("errors.errorType", laid_errors_errorType), ("quota/field.nibbles", laid_quota_field_nibbles), ("quota/page.headSizes", laid_quota_page_headSizes), ("quota/page.counterSizes", laid_quota_page_counterSizes), ("quota/page.groupSizes", laid_quota_page_groupSizes)] }
def PoolOldSaid : Prop := poolOldRow.holds Tryz.pinned (OpenSpec.ofChange poolOldSpec)

/-- ITS FALSE NEIGHBOUR: 'it returns false'. Refute it at one input. -/
def poolOldWrong : ChangeSpec := { name := "poolOld", fn := fun _ => fun
  | [d1, d2, d3, d4] => { results := [.lit (.bool false)], args := [d1, d2, d3, d4] }
  | _ => none }
def PoolOldWrongFalsely : Prop := poolOldRow.holds Tryz.pinned (OpenSpec.ofChange poolOldWrong)

/-- 'quotalaw09.PoolFirst': WHATEVER THE INPUT: true; the input reads as it did. -/
def poolFirstSpec : ChangeSpec := { name := "poolFirst", fn := fun _ => fun
  | [d1, d2, d3, d4] => { results := [.lit (.bool true)], args := [d1, d2, d3, d4] }
  | _ => none }
def poolFirstRow : OpenClaim := { program := "ytbcedpankkdfoaagreatdoor", sum := "99b7c505a195a24b23bb779b2bb66f440339fcdda0953af4831a3c4b3b86e6b7", func := "quota/quotalaw09.PoolFirst", spec := "poolFirst", inPlace := ["internal/reflectlite.ValueOf", "(internal/reflectlite.Value).Type", "(internal/reflectlite.Value).IsNil", "internal/reflectlite.TypeOf", "(internal/reflectlite.Value).Elem", "(internal/reflectlite.Value).Set"], unfollowed := true, recurses := true, named := ["errors.errorType", "quota/page.headSizes", "quota/page.counterSizes", "quota/page.groupSizes", "quota/field.nibbles"], apart := false, laid := [("errors.errorType", laid_errors_errorType), ("quota/field.nibbles", laid_quota_field_nibbles), ("quota/page.headSizes", laid_quota_page_headSizes), ("quota/page.counterSizes", laid_quota_page_counterSizes), ("quota/page.groupSizes", laid_quota_page_groupSizes)] }
def PoolFirstSaid : Prop := poolFirstRow.holds Tryz.pinned (OpenSpec.ofChange poolFirstSpec)

/-- ITS FALSE NEIGHBOUR: 'it returns false'. Refute it at one input. -/
def poolFirstWrong : ChangeSpec := { name := "poolFirst", fn := fun _ => fun
  | [d1, d2, d3, d4] => { results := [.lit (.bool false)], args := [d1, d2, d3, d4] }
  | _ => none }
def PoolFirstWrongFalsely : Prop := poolFirstRow.holds Tryz.pinned (OpenSpec.ofChange poolFirstWrong)

/-- 'quotalaw18.RedoNames': WHATEVER THE INPUT: true; the input reads as it did. -/
def redoNamesSpec : ChangeSpec := { name := "redoNames", fn := fun _ => fun
  | [] => { results := [.lit (.bool true)], args := [] }
  | _ => none }
def redoNamesRow : OpenClaim := { program := "ytbcedpankkdfoaagreatdoor", sum := "99b7c505a195a24b23bb779b2bb66f440339fcdda0953af4831a3c4b3b86e6b7", func := "quota/quotalaw18.RedoNames", spec := "redoNames", inPlace := ["internal/reflectlite.ValueOf", "(internal/reflectlite.Value).Type", "(internal/reflectlite.Value).IsNil", "internal/reflectlite.TypeOf", "(internal/reflectlite.Value).Elem", "(internal/reflectlite.Value).Set", "math/bits.Add64", "math/bits.Sub64"], unfollowed := true, recurses := true, named := ["errors.errorType", "quota/page.headSizes", "quota/page.counterSizes", "quota/page.groupSizes", "quota/field.nibbles"], apart := false, laid := [("errors.errorType", laid_errors_errorType), ("quota/field.nibbles", laid_quota_field_nibbles), ("quota/page.headSizes", laid_quota_page_headSizes), ("quota/page.counterSizes", laid_quota_page_counterSizes), ("quota/page.groupSizes", laid_quota_page_groupSizes)] }
def RedoNamesSaid : Prop := redoNamesRow.holds Tryz.pinned (OpenSpec.ofChange redoNamesSpec)

/-- ITS FALSE NEIGHBOUR: 'it returns false'. Refute it at one input. -/
def redoNamesWrong : ChangeSpec := { name := "redoNames", fn := fun _ => fun
  | [] => { results := [.lit (.bool false)], args := [] }
  | _ => none }
def RedoNamesWrongFalsely : Prop := redoNamesRow.holds Tryz.pinned (OpenSpec.ofChange redoNamesWrong)

/-- 'quotalaw18.RedoHistory': WHATEVER THE INPUT: true; the input reads as it did. -/
def redoHistorySpec : ChangeSpec := { name := "redoHistory", fn := fun _ => fun
  | [d1, d2] => { results := [.lit (.bool true)], args := [d1, d2] }
  | _ => none }
def redoHistoryRow : OpenClaim := { program := "ytbcedpankkdfoaagreatdoor", sum := "99b7c505a195a24b23bb779b2bb66f440339fcdda0953af4831a3c4b3b86e6b7", func := "quota/quotalaw18.RedoHistory", spec := "redoHistory", inPlace := ["internal/reflectlite.ValueOf", "(internal/reflectlite.Value).Type", "(internal/reflectlite.Value).IsNil", "internal/reflectlite.TypeOf", "(internal/reflectlite.Value).Elem", "(internal/reflectlite.Value).Set", "math/bits.Add64", "math/bits.Sub64"], unfollowed := true, recurses := true, named := ["errors.errorType", "quota/page.headSizes", "quota/page.counterSizes", "quota/page.groupSizes", "quota/field.nibbles"], apart := false, laid := [("errors.errorType", laid_errors_errorType), ("quota/field.nibbles", laid_quota_field_nibbles), ("quota/page.headSizes", laid_quota_page_headSizes), ("quota/page.counterSizes", laid_quota_page_counterSizes), ("quota/page.groupSizes", laid_quota_page_groupSizes)] }
def RedoHistorySaid : Prop := redoHistoryRow.holds Tryz.pinned (OpenSpec.ofChange redoHistorySpec)

/-- ITS FALSE NEIGHBOUR: 'it returns false'. Refute it at one input. -/
def redoHistoryWrong : ChangeSpec := { name := "redoHistory", fn := fun _ => fun
  | [d1, d2] => { results := [.lit (.bool false)], args := [d1, d2] }
  | _ => none }
def RedoHistoryWrongFalsely : Prop := redoHistoryRow.holds Tryz.pinned (OpenSpec.ofChange redoHistoryWrong)

/-- 'quotalaw18.RedoCounts': WHATEVER THE INPUT: true; the input reads as it did. -/
def redoCountsSpec : ChangeSpec := { name := "redoCounts", fn := fun _ => fun
  | [d] => { results := [.lit (.bool true)], args := [d] }
  | _ => none }
def redoCountsRow : OpenClaim := { program := "ytbcedpankkdfoaagreatdoor", sum := "99b7c505a195a24b23bb779b2bb66f440339fcdda0953af4831a3c4b3b86e6b7", func := "quota/quotalaw18.RedoCounts", spec := "redoCounts", inPlace := ["internal/reflectlite.ValueOf", "(internal/reflectlite.Value).Type", "(internal/reflectlite.Value).IsNil", "internal/reflectlite.TypeOf", "(internal/reflectlite.Value).Elem", "(internal/reflectlite.Value).Set", "math/bits.Add64", "math/bits.Sub64"], unfollowed := true, recurses := true, named := ["errors.errorType", "quota/page.headSizes", "quota/page.counterSizes", "quota/page.groupSizes", "quota/field.nibbles"], apart := false, laid := [("errors.errorType", laid_errors_errorType), ("quota/field.nibbles", laid_quota_field_nibbles), ("quota/page.headSizes", laid_quota_page_headSizes), ("quota/page.counterSizes", laid_quota_page_counterSizes), ("quota/page.groupSizes", laid_quota_page_groupSizes)] }
def RedoCountsSaid : Prop := redoCountsRow.holds Tryz.pinned (OpenSpec.ofChange redoCountsSpec)

/-- ITS FALSE NEIGHBOUR: 'it returns false'. Refute it at one input. -/
def redoCountsWrong : ChangeSpec := { name := "redoCounts", fn := fun _ => fun
  | [d] => { results := [.lit (.bool false)], args := [d] }
  | _ => none }
def RedoCountsWrongFalsely : Prop := redoCountsRow.holds Tryz.pinned (OpenSpec.ofChange redoCountsWrong)

/-- 'quotalaw18.RedoAgain': WHATEVER THE INPUT: true; the input reads as it did. -/
def redoAgainSpec : ChangeSpec := { name := "redoAgain", fn := fun _ => fun
  | [d1, d2] => { results := [.lit (.bool true)], args := [d1, d2] }
  | _ => none }
def redoAgainRow : OpenClaim := { program := "ytbcedpankkdfoaagreatdoor", sum := "99b7c505a195a24b23bb779b2bb66f440339fcdda0953af4831a3c4b3b86e6b7", func := "quota/quotalaw18.RedoAgain", spec := "redoAgain", inPlace := ["internal/reflectlite.ValueOf", "(internal/reflectlite.Value).Type", "(internal/reflectlite.Value).IsNil", "internal/reflectlite.TypeOf", "(internal/reflectlite.Value).Elem", "(internal/reflectlite.Value).Set", "math/bits.Add64", "math/bits.Sub64"], unfollowed := true, recurses := true, named := ["errors.errorType", "quota/page.headSizes", "quota/page.counterSizes", "quota/page.groupSizes", "quota/field.nibbles"], apart := false, laid := [("errors.errorType", laid_errors_errorType), ("quota/field.nibbles", laid_quota_field_nibbles), ("quota/page.headSizes", laid_quota_page_headSizes), ("quota/page.counterSizes", laid_quota_page_counterSizes), ("quota/page.groupSizes", laid_quota_page_groupSizes)] }
def RedoAgainSaid : Prop := redoAgainRow.holds Tryz.pinned (OpenSpec.ofChange redoAgainSpec)

/-- ITS FALSE NEIGHBOUR: 'it returns false'. Refute it at one input. -/
def redoAgainWrong : ChangeSpec := { name := "redoAgain", fn := fun _ => fun
  | [d1, d2] => { results := [.lit (.bool false)], args := [d1, d2] }
  | _ => none }
def RedoAgainWrongFalsely : Prop := redoAgainRow.holds Tryz.pinned (OpenSpec.ofChange redoAgainWrong)

/-- 'quotalaw18.RedoExact': WHATEVER THE INPUT: true; the input reads as it did. -/
def redoExactSpec : ChangeSpec := { name := "redoExact", fn := fun _ => fun
  | [d1, d2, d3, d4] => { results := [.lit (.bool true)], args := [d1, d2, d3, d4] }
  | _ => none }
def redoExactRow : OpenClaim := { program := "ytbcedpankkdfoaagreatdoor", sum := "99b7c505a195a24b23bb779b2bb66f440339fcdda0953af4831a3c4b3b86e6b7", func := "quota/quotalaw18.RedoExact", spec := "redoExact", inPlace := ["internal/reflectlite.ValueOf", "(internal/reflectlite.Value).Type", "(internal/reflectlite.Value).IsNil", "internal/reflectlite.TypeOf", "(internal/reflectlite.Value).Elem", "(internal/reflectlite.Value).Set", "math/bits.Add64", "math/bits.Sub64"], unfollowed := true, recurses := true, named := ["errors.errorType", "quota/page.headSizes", "quota/page.counterSizes", "quota/page.groupSizes", "quota/field.nibbles"], apart := false, laid := [("errors.errorType", laid_errors_errorType), ("quota/field.nibbles", laid_quota_field_nibbles), ("quota/page.headSizes", laid_quota_page_headSizes), ("quota/page.counterSizes", laid_quota_page_counterSizes), ("quota/page.groupSizes", laid_quota_page_groupSizes)] }
def RedoExactSaid : Prop := redoExactRow.holds Tryz.pinned (OpenSpec.ofChange redoExactSpec)

/-- ITS FALSE NEIGHBOUR: 'it returns false'. Refute it at one input. -/
def redoExactWrong : ChangeSpec := { name := "redoExact", fn := fun _ => fun
  | [d1, d2, d3, d4] => { results := [.lit (.bool false)], args := [d1, d2, d3, d4] }
  | _ => none }
def RedoExactWrongFalsely : Prop := redoExactRow.holds Tryz.pinned (OpenSpec.ofChange redoExactWrong)

/-- 'quotalaw16.PointsTake': WHATEVER THE INPUT: true; the input reads as it did. -/
def pointsTakeSpec : ChangeSpec := { name := "pointsTake", fn := fun _ => fun
  | [d1, d2] => { results := [.lit (.bool true)], args := [d1, d2] }
  | _ => none }
def pointsTakeRow : OpenClaim := { program := "ytbcedpankkdfoaagreatdoor", sum := "99b7c505a195a24b23bb779b2bb66f440339fcdda0953af4831a3c4b3b86e6b7", func := "quota/quotalaw16.PointsTake", spec := "pointsTake", inPlace := ["internal/reflectlite.ValueOf", "(internal/reflectlite.Value).Type", "(internal/reflectlite.Value).IsNil", "internal/reflectlite.TypeOf", "(internal/reflectlite.Value).Elem", "(internal/reflectlite.Value).Set"], unfollowed := true, recurses := true, named := ["errors.errorType", "quota/page.headSizes", "quota/page.counterSizes", "quota/page.groupSizes", "quota/field.nibbles"], apart := false, laid := [("errors.errorType", laid_errors_errorType), ("quota/field.nibbles", laid_quota_field_nibbles), ("quota/page.headSizes", laid_quota_page_headSizes), ("quota/page.counterSizes", laid_quota_page_counterSizes), ("quota/page.groupSizes", laid_quota_page_groupSizes)] }
def PointsTakeSaid : Prop := pointsTakeRow.holds Tryz.pinned (OpenSpec.ofChange pointsTakeSpec)

/-- ITS FALSE NEIGHBOUR: 'it returns false'. Refute it at one input. -/
def pointsTakeWrong : ChangeSpec := { name := "pointsTake", fn := fun _ => fun
  | [d1, d2] => { results := [.lit (.bool false)], args := [d1, d2] }
  | _ => none }
def PointsTakeWrongFalsely : Prop := pointsTakeRow.holds Tryz.pinned (OpenSpec.ofChange pointsTakeWrong)

/- THE SECOND FORM. 'bulk': how many values and letters a reading holds, each counted each time it is reached (what is shared counts as often as it is met; a slice's spare places count too). A statement '..UptoSaid' is the law's where the arguments, and the package variables that the reading takes, are together of bulk at most 1048576: NARROWER than '..Said'. Prove '..Said' where nothing that the law and all that it calls make is longer than what came in: it says more and counts as full. Else prove '..UptoSaid'. A law counts once. -/
mutual
def uptoBulk {H : Type} : DataW H → Nat
  | .lit (.string bytes) => bytes.length + 1
  | .lit _ => 1
  | .nil => 1
  | .ptr d => uptoBulk d + 1
  | .slice elems spare => uptoBulkAll elems + uptoBulkAll spare + 1
  | .agg parts => uptoBulkAll parts + 1
  | .iface _ d => uptoBulk d + 1
  | .map entries => uptoBulkEntries entries + 1
  | .held _ => 1
def uptoBulkAll {H : Type} : List (DataW H) → Nat
  | [] => 0
  | d :: r => uptoBulk d + uptoBulkAll r
def uptoBulkEntries {H : Type} : List (Lit × DataW H) → Nat
  | [] => 0
  | x :: r => uptoBulkEntry x + uptoBulkEntries r
def uptoBulkEntry {H : Type} : Lit × DataW H → Nat
  | (.string bytes, d) => bytes.length + uptoBulk d + 1
  | (_, d) => uptoBulk d + 1
 end
def uptoSmall : (H : Type) → List (DataW H) → Bool := fun _ ds => decide (uptoBulkAll ds ≤ 1048576)
def OpenSpec.upto (s : _root_.Go.ChangeSpec) : _root_.Go.OpenSpec := { _root_.Go.OpenSpec.ofChange s with cond := some uptoSmall }

/-- 'quotalaw09.PoolNames', WHERE WHAT IT READS IS OF BULK AT MOST 1048576: true; the input reads as it did. -/
def poolNamesUptoRow : OpenClaim := { program := "ytbcedpankkdfoaagreatdoor", sum := "99b7c505a195a24b23bb779b2bb66f440339fcdda0953af4831a3c4b3b86e6b7", func := "quota/quotalaw09.PoolNames", spec := "poolNames", inPlace := ["internal/reflectlite.ValueOf", "(internal/reflectlite.Value).Type", "(internal/reflectlite.Value).IsNil", "internal/reflectlite.TypeOf", "(internal/reflectlite.Value).Elem", "(internal/reflectlite.Value).Set"], unfollowed := true, recurses := true, named := ["errors.errorType", "quota/page.headSizes", "quota/page.counterSizes", "quota/page.groupSizes", "quota/field.nibbles"], apart := false, laid := [("errors.errorType", laid_errors_errorType), ("quota/field.nibbles", laid_quota_field_nibbles), ("quota/page.headSizes", laid_quota_page_headSizes), ("quota/page.counterSizes", laid_quota_page_counterSizes), ("quota/page.groupSizes", laid_quota_page_groupSizes)], narrowed := true }
def PoolNamesUptoSaid : Prop := poolNamesUptoRow.holds Tryz.pinned (OpenSpec.upto poolNamesSpec)

/-- 'quotalaw09.PoolKeeps', WHERE WHAT IT READS IS OF BULK AT MOST 1048576: true; the input reads as it did. -/
def poolKeepsUptoRow : OpenClaim := { program := "ytbcedpankkdfoaagreatdoor", sum := "99b7c505a195a24b23bb779b2bb66f440339fcdda0953af4831a3c4b3b86e6b7", func := "quota/quotalaw09.PoolKeeps", spec := "poolKeeps", inPlace := ["internal/reflectlite.ValueOf", "(internal/reflectlite.Value).Type", "(internal/reflectlite.Value).IsNil", "internal/reflectlite.TypeOf", "(internal/reflectlite.Value).Elem", "(internal/reflectlite.Value).Set"], unfollowed := true, recurses := true, named := ["errors.errorType", "quota/page.headSizes", "quota/page.counterSizes", "quota/page.groupSizes", "quota/field.nibbles"], apart := false, laid := [("errors.errorType", laid_errors_errorType), ("quota/field.nibbles", laid_quota_field_nibbles), ("quota/page.headSizes", laid_quota_page_headSizes), ("quota/page.counterSizes", laid_quota_page_counterSizes), ("quota/page.groupSizes", laid_quota_page_groupSizes)], narrowed := true }
def PoolKeepsUptoSaid : Prop := poolKeepsUptoRow.holds Tryz.pinned (OpenSpec.upto poolKeepsSpec)

/-- 'quotalaw09.PoolNewMemory', WHERE WHAT IT READS IS OF BULK AT MOST 1048576: true; the input reads as it did. -/
def poolNewMemoryUptoRow : OpenClaim := { program := "ytbcedpankkdfoaagreatdoor", sum := "99b7c505a195a24b23bb779b2bb66f440339fcdda0953af4831a3c4b3b86e6b7", func := "quota/quotalaw09.PoolNewMemory", spec := "poolNewMemory", inPlace := ["internal/reflectlite.ValueOf", "(internal/reflectlite.Value).Type", "(internal/reflectlite.Value).IsNil", "internal/reflectlite.TypeOf", "(internal/reflectlite.Value).Elem", "(internal/reflectlite.Value).Set"], unfollowed := true, recurses := true, named := ["errors.errorType", "quota/page.headSizes", "quota/page.counterSizes", "quota/page.groupSizes", "quota/field.nibbles"], apart := false, laid := [("errors.errorType", laid_errors_errorType), ("quota/field.nibbles", laid_quota_field_nibbles), ("quota/page.headSizes", laid_quota_page_headSizes), ("quota/page.counterSizes", laid_quota_page_counterSizes), ("quota/page.groupSizes", laid_quota_page_groupSizes)], narrowed := true }
def PoolNewMemoryUptoSaid : Prop := poolNewMemoryUptoRow.holds Tryz.pinned (OpenSpec.upto poolNewMemorySpec)

/-- 'quotalaw09.PoolExact', WHERE WHAT IT READS IS OF BULK AT MOST 1048576: true; the input reads as it did. -/
def poolExactUptoRow : OpenClaim := { program := "ytbcedpankkdfoaagreatdoor", sum := "99b7c505a195a24b23bb779b2bb66f440339fcdda0953af4831a3c4b3b86e6b7", func := "quota/quotalaw09.PoolExact", spec := "poolExact", inPlace := ["internal/reflectlite.ValueOf", "(internal/reflectlite.Value).Type", "(internal/reflectlite.Value).IsNil", "internal/reflectlite.TypeOf", "(internal/reflectlite.Value).Elem", "(internal/reflectlite.Value).Set"], unfollowed := true, recurses := true, named := ["errors.errorType", "quota/page.headSizes", "quota/page.counterSizes", "quota/page.groupSizes", "quota/field.nibbles"], apart := false, laid := [("errors.errorType", laid_errors_errorType), ("quota/field.nibbles", laid_quota_field_nibbles), ("quota/page.headSizes", laid_quota_page_headSizes), ("quota/page.counterSizes", laid_quota_page_counterSizes), ("quota/page.groupSizes", laid_quota_page_groupSizes)], narrowed := true }
def PoolExactUptoSaid : Prop := poolExactUptoRow.holds Tryz.pinned (OpenSpec.upto poolExactSpec)

/-- 'quotalaw09.PoolOld', WHERE WHAT IT READS IS OF BULK AT MOST 1048576: true; the input reads as it did. -/
def poolOldUptoRow : OpenClaim := { program := "ytbcedpankkdfoaagreatdoor", sum := "99b7c505a195a24b23bb779b2bb66f440339fcdda0953af4831a3c4b3b86e6b7", func := "quota/quotalaw09.PoolOld", spec := "poolOld", inPlace := ["internal/reflectlite.ValueOf", "(internal/reflectlite.Value).Type", "(internal/reflectlite.Value).IsNil", "internal/reflectlite.TypeOf", "(internal/reflectlite.Value).Elem", "(internal/reflectlite.Value).Set"], unfollowed := true, recurses := true, named := ["errors.errorType", "quota/page.headSizes", "quota/page.counterSizes", "quota/page.groupSizes", "quota/field.nibbles"], apart := false, laid := [("errors.errorType", laid_errors_errorType), ("quota/field.nibbles", laid_quota_field_nibbles), ("quota/page.headSizes", laid_quota_page_headSizes), ("quota/page.counterSizes", laid_quota_page_counterSizes), ("quota/page.groupSizes", laid_quota_page_groupSizes)], narrowed := true }
def PoolOldUptoSaid : Prop := poolOldUptoRow.holds Tryz.pinned (OpenSpec.upto poolOldSpec)

/-- 'quotalaw09.PoolFirst', WHERE WHAT IT READS IS OF BULK AT MOST 1048576: true; the input reads as it did. -/
def poolFirstUptoRow : OpenClaim := { program := "ytbcedpankkdfoaagreatdoor", sum := "99b7c505a195a24b23bb779b2bb66f440339fcdda0953af4831a3c4b3b86e6b7", func := "quota/quotalaw09.PoolFirst", spec := "poolFirst", inPlace := ["internal/reflectlite.ValueOf", "(internal/reflectlite.Value).Type", "(internal/reflectlite.Value).IsNil", "internal/reflectlite.TypeOf", "(internal/reflectlite.Value).Elem", "(internal/reflectlite.Value).Set"], unfollowed := true, recurses := true, named := ["errors.errorType", "quota/page.headSizes", "quota/page.counterSizes", "quota/page.groupSizes", "quota/field.nibbles"], apart := false, laid := [("errors.errorType", laid_errors_errorType), ("quota/field.nibbles", laid_quota_field_nibbles), ("quota/page.headSizes", laid_quota_page_headSizes), ("quota/page.counterSizes", laid_quota_page_counterSizes), ("quota/page.groupSizes", laid_quota_page_groupSizes)], narrowed := true }
def PoolFirstUptoSaid : Prop := poolFirstUptoRow.holds Tryz.pinned (OpenSpec.upto poolFirstSpec)

/-- 'quotalaw18.RedoNames', WHERE WHAT IT READS IS OF BULK AT MOST 1048576: true; the input reads as it did. -/
def redoNamesUptoRow : OpenClaim := { program := "ytbcedpankkdfoaagreatdoor", sum := "99b7c505a195a24b23bb779b2bb66f440339fcdda0953af4831a3c4b3b86e6b7", func := "quota/quotalaw18.RedoNames", spec := "redoNames", inPlace := ["internal/reflectlite.ValueOf", "(internal/reflectlite.Value).Type", "(internal/reflectlite.Value).IsNil", "internal/reflectlite.TypeOf", "(internal/reflectlite.Value).Elem", "(internal/reflectlite.Value).Set", "math/bits.Add64", "math/bits.Sub64"], unfollowed := true, recurses := true, named := ["errors.errorType", "quota/page.headSizes", "quota/page.counterSizes", "quota/page.groupSizes", "quota/field.nibbles"], apart := false, laid := [("errors.errorType", laid_errors_errorType), ("quota/field.nibbles", laid_quota_field_nibbles), ("quota/page.headSizes", laid_quota_page_headSizes), ("quota/page.counterSizes", laid_quota_page_counterSizes), ("quota/page.groupSizes", laid_quota_page_groupSizes)], narrowed := true }
def RedoNamesUptoSaid : Prop := redoNamesUptoRow.holds Tryz.pinned (OpenSpec.upto redoNamesSpec)

/-- 'quotalaw18.RedoHistory', WHERE WHAT IT READS IS OF BULK AT MOST 1048576: true; the input reads as it did. -/
def redoHistoryUptoRow : OpenClaim := { program := "ytbcedpankkdfoaagreatdoor", sum := "99b7c505a195a24b23bb779b2bb66f440339fcdda0953af4831a3c4b3b86e6b7", func := "quota/quotalaw18.RedoHistory", spec := "redoHistory", inPlace := ["internal/reflectlite.ValueOf", "(internal/reflectlite.Value).Type", "(internal/reflectlite.Value).IsNil", "internal/reflectlite.TypeOf", "(internal/reflectlite.Value).Elem", "(internal/reflectlite.Value).Set", "math/bits.Add64", "math/bits.Sub64"], unfollowed := true, recurses := true, named := ["errors.errorType", "quota/page.headSizes", "quota/page.counterSizes", "quota/page.groupSizes", "quota/field.nibbles"], apart := false, laid := [("errors.errorType", laid_errors_errorType), ("quota/field.nibbles", laid_quota_field_nibbles), ("quota/page.headSizes", laid_quota_page_headSizes), ("quota/page.counterSizes", laid_quota_page_counterSizes), ("quota/page.groupSizes", laid_quota_page_groupSizes)], narrowed := true }
def RedoHistoryUptoSaid : Prop := redoHistoryUptoRow.holds Tryz.pinned (OpenSpec.upto redoHistorySpec)

/-- 'quotalaw18.RedoCounts', WHERE WHAT IT READS IS OF BULK AT MOST 1048576: true; the input reads as it did. -/
def redoCountsUptoRow : OpenClaim := { program := "ytbcedpankkdfoaagreatdoor", sum := "99b7c505a195a24b23bb779b2bb66f440339fcdda0953af4831a3c4b3b86e6b7", func := "quota/quotalaw18.RedoCounts", spec := "redoCounts", inPlace := ["internal/reflectlite.ValueOf", "(internal/reflectlite.Value).Type", "(internal/reflectlite.Value).IsNil", "internal/reflectlite.TypeOf", "(internal/reflectlite.Value).Elem", "(internal/reflectlite.Value).Set", "math/bits.Add64", "math/bits.Sub64"], unfollowed := true, recurses := true, named := ["errors.errorType", "quota/page.headSizes", "quota/page.counterSizes", "quota/page.groupSizes", "quota/field.nibbles"], apart := false, laid := [("errors.errorType", laid_errors_errorType), ("quota/field.nibbles", laid_quota_field_nibbles), ("quota/page.headSizes", laid_quota_page_headSizes), ("quota/page.counterSizes", laid_quota_page_counterSizes), ("quota/page.groupSizes", laid_quota_page_groupSizes)], narrowed := true }
def RedoCountsUptoSaid : Prop := redoCountsUptoRow.holds Tryz.pinned (OpenSpec.upto redoCountsSpec)

/-- 'quotalaw18.RedoAgain', WHERE WHAT IT READS IS OF BULK AT MOST 1048576: true; the input reads as it did. -/
def redoAgainUptoRow : OpenClaim := { program := "ytbcedpankkdfoaagreatdoor", sum := "99b7c505a195a24b23bb779b2bb66f440339fcdda0953af4831a3c4b3b86e6b7", func := "quota/quotalaw18.RedoAgain", spec := "redoAgain", inPlace := ["internal/reflectlite.ValueOf", "(internal/reflectlite.Value).Type", "(internal/reflectlite.Value).IsNil", "internal/reflectlite.TypeOf", "(internal/reflectlite.Value).Elem", "(internal/reflectlite.Value).Set", "math/bits.Add64", "math/bits.Sub64"], unfollowed := true, recurses := true, named := ["errors.errorType", "quota/page.headSizes", "quota/page.counterSizes", "quota/page.groupSizes", "quota/field.nibbles"], apart := false, laid := [("errors.errorType", laid_errors_errorType), ("quota/field.nibbles", laid_quota_field_nibbles), ("quota/page.headSizes", laid_quota_page_headSizes), ("quota/page.counterSizes", laid_quota_page_counterSizes), ("quota/page.groupSizes", laid_quota_page_groupSizes)], narrowed := true }
def RedoAgainUptoSaid : Prop := redoAgainUptoRow.holds Tryz.pinned (OpenSpec.upto redoAgainSpec)

/-- 'quotalaw18.RedoExact', WHERE WHAT IT READS IS OF BULK AT MOST 1048576: true; the input reads as it did. -/
def redoExactUptoRow : OpenClaim := { program := "ytbcedpankkdfoaagreatdoor", sum := "99b7c505a195a24b23bb779b2bb66f440339fcdda0953af4831a3c4b3b86e6b7", func := "quota/quotalaw18.RedoExact", spec := "redoExact", inPlace := ["internal/reflectlite.ValueOf", "(internal/reflectlite.Value).Type", "(internal/reflectlite.Value).IsNil", "internal/reflectlite.TypeOf", "(internal/reflectlite.Value).Elem", "(internal/reflectlite.Value).Set", "math/bits.Add64", "math/bits.Sub64"], unfollowed := true, recurses := true, named := ["errors.errorType", "quota/page.headSizes", "quota/page.counterSizes", "quota/page.groupSizes", "quota/field.nibbles"], apart := false, laid := [("errors.errorType", laid_errors_errorType), ("quota/field.nibbles", laid_quota_field_nibbles), ("quota/page.headSizes", laid_quota_page_headSizes), ("quota/page.counterSizes", laid_quota_page_counterSizes), ("quota/page.groupSizes", laid_quota_page_groupSizes)], narrowed := true }
def RedoExactUptoSaid : Prop := redoExactUptoRow.holds Tryz.pinned (OpenSpec.upto redoExactSpec)

/-- 'quotalaw16.PointsTake', WHERE WHAT IT READS IS OF BULK AT MOST 1048576: true; the input reads as it did. -/
def pointsTakeUptoRow : OpenClaim := { program := "ytbcedpankkdfoaagreatdoor", sum := "99b7c505a195a24b23bb779b2bb66f440339fcdda0953af4831a3c4b3b86e6b7", func := "quota/quotalaw16.PointsTake", spec := "pointsTake", inPlace := ["internal/reflectlite.ValueOf", "(internal/reflectlite.Value).Type", "(internal/reflectlite.Value).IsNil", "internal/reflectlite.TypeOf", "(internal/reflectlite.Value).Elem", "(internal/reflectlite.Value).Set"], unfollowed := true, recurses := true, named := ["errors.errorType", "quota/page.headSizes", "quota/page.counterSizes", "quota/page.groupSizes", "quota/field.nibbles"], apart := false, laid := [("errors.errorType", laid_errors_errorType), ("quota/field.nibbles", laid_quota_field_nibbles), ("quota/page.headSizes", laid_quota_page_headSizes), ("quota/page.counterSizes", laid_quota_page_counterSizes), ("quota/page.groupSizes", laid_quota_page_groupSizes)], narrowed := true }
def PointsTakeUptoSaid : Prop := pointsTakeUptoRow.holds Tryz.pinned (OpenSpec.upto pointsTakeSpec)

end Rows
end Go.Proofs.YtbcedpankkdfoaaGreatDoor
