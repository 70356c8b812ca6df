/- The numbers of the functions and types by name, the type table, the live slots, the plans of the regions that draw: written by a program (tools/gen.py). No condition. -/
import Derived.Test.YtacpnjlijjgbmaaGreatDoorProg
import Derived.KernelRfl
import Derived.Test.YtacpnjlijjgbmaaGreatDoorDrawT
namespace Go.Proofs.YtacpnjlijjgbmaaGreatDoor
open Go Go.SL
abbrev f_quotalaw19_UndoLefts : Nat := 3
abbrev f_quotalaw19_UndoOwn : Nat := 4
abbrev f_quotalaw19_first : Nat := 5
abbrev f_quotalaw19_lent : Nat := 6
abbrev f_undo_Left : Nat := 7
abbrev f_quotaref19_Left : Nat := 8
abbrev f_quotalaw19_same : Nat := 9
abbrev f_quotalaw19_kept : Nat := 10
abbrev f_quotalaw19_Life_told : Nat := 11
abbrev f_quotalaw19_Life_wide : Nat := 12
abbrev f_undo_Run : Nat := 13
abbrev f_quotalaw19_is : Nat := 14
abbrev f_interval_Add : Nat := 15
abbrev f_slices_Sorted_int : Nat := 16
abbrev f_maps_Keys_M_int_api_Record_int_api_Record : Nat := 17
abbrev f_quotaref19_at : Nat := 18
abbrev f_quotaref10_Of : Nat := 19
abbrev f_quotaref10_Wide_Plus : Nat := 20
abbrev f_quotaref10_Wide_Fits : Nat := 21
abbrev f_quotaref19_rising : Nat := 22
abbrev f_quotalaw19_plain : Nat := 23
abbrev f_quotaref18_Told : Nat := 24
abbrev f_quotalaw19_Life_shape : Nat := 25
abbrev f_undo_Run_1 : Nat := 26
abbrev f_undo_must : Nat := 27
abbrev f_undo_records : Nat := 29
abbrev f_undo_run_append : Nat := 30
abbrev f_undo_Run_2 : Nat := 31
abbrev f_undo_Run_3 : Nat := 33
abbrev f_interval_of : Nat := 38
abbrev f_interval_wide_plus : Nat := 39
abbrev f_interval_wide_number : Nat := 40
abbrev f_slices_Collect_int : Nat := 41
abbrev f_slices_Sort_S_int_int : Nat := 42
abbrev f_maps_Keys_M_int_api_Record_int_api_Record_1 : Nat := 43
abbrev f_quotaref18_Story_does : Nat := 44
abbrev f_quotalaw19_brought : Nat := 45
abbrev f_interval_Sub : Nat := 55
abbrev f_slices_AppendSeq_S_int_int : Nat := 61
abbrev f_quotaref18_brought : Nat := 64
abbrev f_quotaref18_Story_makes : Nat := 65
abbrev f_quotaref18_Story_writes : Nat := 66
abbrev f_quotaref18_Story_leaves : Nat := 67
abbrev f_quotaref18_Story_change : Nat := 68
abbrev f_interval_wide_minus : Nat := 90
abbrev f_math_bits_Add64 : Nat := 60
abbrev f_math_bits_Sub64 : Nat := 140
abbrev t_int64 : Nat := 2
abbrev t_int : Nat := 3
abbrev t_bool : Nat := 4
abbrev t_string : Nat := 9
abbrev t_interface : Nat := 20
abbrev t_S_api_Record : Nat := 22
abbrev t_api_Errno : Nat := 25
abbrev t_api_Shape : Nat := 33
abbrev t_S_quotaref18_Deed : Nat := 34
abbrev t_S_int : Nat := 35
abbrev t_quotalaw19_Life : Nat := 37
abbrev t_S_S_api_Record : Nat := 40
abbrev t_api_Kind : Nat := 41
abbrev t_api_Slot : Nat := 43
abbrev t_api_Range : Nat := 45
abbrev t_api_Counter : Nat := 47
abbrev t_S_api_Live : Nat := 48
abbrev t_S_api_Dirty : Nat := 49
abbrev t_api_Points : Nat := 51
abbrev t_api_Record : Nat := 53
abbrev t_error : Nat := 56
abbrev t_M_int_api_Record : Nat := 60
abbrev t_iter_Seq_int : Nat := 66
abbrev t_quotaref10_Wide : Nat := 70
abbrev t_S_quotaref18_Place : Nat := 73
abbrev t_S_api_Slot : Nat := 74
abbrev t_S_quotaref18_Open : Nat := 75
abbrev t_S_int64 : Nat := 76
abbrev t_quotaref18_Story : Nat := 78
abbrev t_P_quotaref18_Story : Nat := 79
abbrev t_P_log_Log : Nat := 81
abbrev t_P_pool_Pool : Nat := 82
abbrev t_P_txns_Table : Nat := 83
abbrev t_undo_refusal : Nat := 85
abbrev t_P_api_Fault : Nat := 86
abbrev t_api_Fault : Nat := 88
abbrev t_api_Live : Nat := 91
abbrev t_undo_run : Nat := 96
abbrev t_funcint : Nat := 98
abbrev t_S_api_Counter : Nat := 101
abbrev t_S_api_Group : Nat := 102
abbrev t_page_Page : Nat := 104
abbrev t_uint64 : Nat := 111
abbrev t_interval_wide : Nat := 113
abbrev t_uint : Nat := 118
abbrev t_quotaref18_Deed : Nat := 121
abbrev t_S_bool : Nat := 154
abbrev t_quotaref18_Open : Nat := 156
abbrev t_api_Group : Nat := 189
abbrev t_quotaref18_Place : Nat := 215
abbrev t_api_Dirty : Nat := 219
abbrev g_errors_errorType : Nat := 0
abbrev g_page_headSizes : Nat := 1
abbrev g_page_groupSizes : Nat := 2
abbrev g_page_counterSizes : Nat := 3
abbrev g_field_nibbles : Nat := 4
noncomputable abbrev prog : Program := Go.Proofs.Tryz.prog
def findT : List (Nat × TRow) → Nat → Option TRow
  | [], _ => none
  | (k, r) :: l, t => match Nat.beq k t with
    | true => some r
    | false => findT l t
def rows : List (Nat × TRow) := [
  (3, ⟨(.int .i64), [(.int .i64 0)], false, 1, 8⟩),
  (53, ⟨(.struct ⟨[⟨"LSN", 3, 0, false, "", "", 0⟩, ⟨"Kind", 41, 1, false, "", "", 8⟩, ⟨"Tx", 3, 2, false, "", "", 16⟩, ⟨"Prev", 3, 3, false, "", "", 24⟩, ⟨"Where", 43, 4, false, "", "", 32⟩, ⟨"Sums", 43, 6, false, "", "", 48⟩, ⟨"Delta", 2, 8, false, "", "", 64⟩, ⟨"Counter", 47, 9, false, "", "", 72⟩, ⟨"Points", 51, 14, false, "", "", 112⟩]⟩), [(.int .i64 0), (.int .i64 0), (.int .i64 0), (.int .i64 0), (.int .i64 0), (.int .i64 0), (.int .i64 0), (.int .i64 0), (.int .i64 0), (.int .i64 0), (.int .i64 0), (.int .i64 0), (.int .i64 0), (.int .i64 0), (.slice none 0 0), (.slice none 0 0), (.int .i64 0)], true, 17, 168⟩),
  (22, ⟨(.slice 53), [(.slice none 0 0)], false, 1, 24⟩),
  (2, ⟨(.int .i64), [(.int .i64 0)], false, 1, 8⟩),
  (78, ⟨(.struct ⟨[⟨"Pages", 3, 0, false, "", "", 0⟩, ⟨"R", 22, 1, false, "", "", 8⟩, ⟨"L", 73, 2, false, "", "", 32⟩, ⟨"Groups", 74, 3, false, "", "", 56⟩, ⟨"IDs", 35, 4, false, "", "", 80⟩, ⟨"Live", 75, 5, false, "", "", 104⟩, ⟨"Next", 3, 6, false, "", "", 128⟩, ⟨"Settled", 76, 7, false, "", "", 136⟩]⟩), [(.int .i64 0), (.slice none 0 0), (.slice none 0 0), (.slice none 0 0), (.slice none 0 0), (.slice none 0 0), (.int .i64 0), (.slice none 0 0)], true, 8, 160⟩),
  (75, ⟨(.slice 156), [(.slice none 0 0)], false, 1, 24⟩),
  (43, ⟨(.struct ⟨[⟨"Page", 3, 0, false, "", "", 0⟩, ⟨"Index", 3, 1, false, "", "", 8⟩]⟩), [(.int .i64 0), (.int .i64 0)], true, 2, 16⟩),
  (35, ⟨(.slice 3), [(.slice none 0 0)], false, 1, 24⟩),
  (156, ⟨(.struct ⟨[⟨"Tx", 3, 0, false, "", "", 0⟩, ⟨"Last", 3, 1, false, "", "", 8⟩, ⟨"Committed", 4, 2, false, "", "", 16⟩, ⟨"Nets", 76, 3, false, "", "", 24⟩, ⟨"Holds", 154, 4, false, "", "", 48⟩]⟩), [(.int .i64 0), (.int .i64 0), (.bool false), (.slice none 0 0), (.slice none 0 0)], true, 5, 72⟩),
  (113, ⟨(.struct ⟨[⟨"high", 2, 0, false, "", "quota/interval", 0⟩, ⟨"low", 111, 1, false, "", "quota/interval", 8⟩]⟩), [(.int .i64 0), (.int .u64 0)], true, 2, 16⟩),
  (47, ⟨(.struct ⟨[⟨"ID", 3, 0, false, "", "", 0⟩, ⟨"Group", 3, 1, false, "", "", 8⟩, ⟨"Bounds", 45, 2, false, "", "", 16⟩, ⟨"Value", 2, 4, false, "", "", 32⟩]⟩), [(.int .i64 0), (.int .i64 0), (.int .i64 0), (.int .i64 0), (.int .i64 0)], true, 5, 40⟩),
  (40, ⟨(.slice 22), [(.slice none 0 0)], false, 1, 24⟩),
  (73, ⟨(.slice 215), [(.slice none 0 0)], false, 1, 24⟩),
  (25, ⟨(.int .i64), [(.int .i64 0)], false, 1, 8⟩),
  (76, ⟨(.slice 2), [(.slice none 0 0)], false, 1, 24⟩),
  (33, ⟨(.struct ⟨[⟨"Pages", 3, 0, false, "", "", 0⟩, ⟨"Log", 3, 1, false, "", "", 8⟩, ⟨"Frames", 3, 2, false, "", "", 16⟩]⟩), [(.int .i64 0), (.int .i64 0), (.int .i64 0)], true, 3, 24⟩),
  (41, ⟨(.int .i64), [(.int .i64 0)], false, 1, 8⟩),
  (111, ⟨(.int .u64), [(.int .u64 0)], false, 1, 8⟩),
  (70, ⟨(.struct ⟨[⟨"H", 2, 0, false, "", "", 0⟩, ⟨"L", 2, 1, false, "", "", 8⟩]⟩), [(.int .i64 0), (.int .i64 0)], true, 2, 16⟩),
  (4, ⟨.bool, [(.bool false)], false, 1, 1⟩),
  (96, ⟨(.struct ⟨[⟨"log", 81, 0, false, "", "quota/undo", 0⟩, ⟨"table", 83, 1, false, "", "quota/undo", 8⟩, ⟨"tx", 3, 2, false, "", "quota/undo", 16⟩]⟩), [(.pointer none), (.pointer none), (.int .i64 0)], true, 3, 24⟩),
  (37, ⟨(.struct ⟨[⟨"Shape", 33, 0, false, "", "", 0⟩, ⟨"Deeds", 34, 3, false, "", "", 24⟩, ⟨"Old", 35, 4, false, "", "", 48⟩]⟩), [(.int .i64 0), (.int .i64 0), (.int .i64 0), (.slice none 0 0), (.slice none 0 0)], true, 5, 72⟩),
  (79, ⟨(.pointer 78), [(.pointer none)], false, 1, 8⟩),
  (121, ⟨(.struct ⟨[⟨"Kind", 3, 0, false, "", "", 0⟩, ⟨"A", 3, 1, false, "", "", 8⟩, ⟨"B", 3, 2, false, "", "", 16⟩, ⟨"D", 2, 3, false, "", "", 24⟩]⟩), [(.int .i64 0), (.int .i64 0), (.int .i64 0), (.int .i64 0)], true, 4, 32⟩),
  (56, ⟨(.interface #[("Error", 308)]), [.nilIface], false, 1, 16⟩),
  (60, ⟨(.map 3 53), [(.map none)], false, 1, 8⟩),
  (74, ⟨(.slice 43), [(.slice none 0 0)], false, 1, 24⟩),
  (82, ⟨(.pointer 177), [(.pointer none)], false, 1, 8⟩),
  (104, ⟨(.struct ⟨[⟨"Number", 3, 0, false, "", "", 0⟩, ⟨"LSN", 3, 1, false, "", "", 8⟩, ⟨"Counters", 101, 2, false, "", "", 16⟩, ⟨"Groups", 102, 3, false, "", "", 40⟩]⟩), [(.int .i64 0), (.int .i64 0), (.slice none 0 0), (.slice none 0 0)], true, 4, 64⟩),
  (81, ⟨(.pointer 161), [(.pointer none)], false, 1, 8⟩),
  (83, ⟨(.pointer 126), [(.pointer none)], false, 1, 8⟩),
  (91, ⟨(.struct ⟨[⟨"Tx", 3, 0, false, "", "", 0⟩, ⟨"Last", 3, 1, false, "", "", 8⟩, ⟨"Committed", 4, 2, false, "", "", 16⟩, ⟨"Undoing", 4, 3, false, "", "", 17⟩]⟩), [(.int .i64 0), (.int .i64 0), (.bool false), (.bool false)], true, 4, 24⟩),
  (215, ⟨(.struct ⟨[⟨"C", 47, 0, false, "", "", 0⟩, ⟨"Where", 43, 5, false, "", "", 40⟩, ⟨"Sums", 43, 7, false, "", "", 56⟩]⟩), [(.int .i64 0), (.int .i64 0), (.int .i64 0), (.int .i64 0), (.int .i64 0), (.int .i64 0), (.int .i64 0), (.int .i64 0), (.int .i64 0)], true, 9, 72⟩),
  (51, ⟨(.struct ⟨[⟨"Live", 48, 0, false, "", "", 0⟩, ⟨"Dirty", 49, 1, false, "", "", 24⟩, ⟨"Next", 3, 2, false, "", "", 48⟩]⟩), [(.slice none 0 0), (.slice none 0 0), (.int .i64 0)], true, 3, 56⟩),
  (85, ⟨(.struct ⟨[⟨"err", 25, 0, false, "", "quota/undo", 0⟩]⟩), [(.int .i64 0)], true, 1, 8⟩),
  (88, ⟨(.struct ⟨[⟨"Call", 9, 0, false, "", "", 0⟩, ⟨"At", 3, 1, false, "", "", 16⟩, ⟨"Err", 56, 2, false, "", "", 24⟩]⟩), [(.string ⟨#[]⟩), (.int .i64 0), .nilIface], true, 3, 40⟩),
  (154, ⟨(.slice 4), [(.slice none 0 0)], false, 1, 24⟩),
  (34, ⟨(.slice 121), [(.slice none 0 0)], false, 1, 24⟩),
  (48, ⟨(.slice 91), [(.slice none 0 0)], false, 1, 24⟩),
  (49, ⟨(.slice 219), [(.slice none 0 0)], false, 1, 24⟩),
  (66, ⟨(.func #[117] #[] false), [.nilFunc], false, 1, 8⟩),
  (86, ⟨(.pointer 88), [(.pointer none)], false, 1, 8⟩),
  (9, ⟨.string, [(.string ⟨#[]⟩)], false, 1, 16⟩),
  (20, ⟨(.interface #[]), [.nilIface], false, 1, 16⟩),
  (118, ⟨(.int .u64), [(.int .u64 0)], false, 1, 8⟩),
  (98, ⟨(.func #[3] #[] false), [.nilFunc], false, 1, 8⟩),
  (45, ⟨(.struct ⟨[⟨"Lo", 2, 0, false, "", "", 0⟩, ⟨"Hi", 2, 1, false, "", "", 8⟩]⟩), [(.int .i64 0), (.int .i64 0)], true, 2, 16⟩),
  (101, ⟨(.slice 47), [(.slice none 0 0)], false, 1, 24⟩),
  (102, ⟨(.slice 189), [(.slice none 0 0)], false, 1, 24⟩),
  (189, ⟨(.struct ⟨[⟨"ID", 3, 0, false, "", "", 0⟩, ⟨"Sum", 2, 1, false, "", "", 8⟩]⟩), [(.int .i64 0), (.int .i64 0)], true, 2, 16⟩),
  (219, ⟨(.struct ⟨[⟨"Page", 3, 0, false, "", "", 0⟩, ⟨"Since", 3, 1, false, "", "", 8⟩]⟩), [(.int .i64 0), (.int .i64 0)], true, 2, 16⟩)]
def tab : Tab := fun t => findT rows t
def AllOk (P : Program) : List (Nat × TRow) → Prop
  | [] => True
  | p :: l => p.2.ok P p.1 ∧ AllOk P l
theorem findT_ok {P : Program} : ∀ (l : List (Nat × TRow)), AllOk P l → ∀ t r, findT l t = some r → r.ok P t
  | [], _, _, _, h => by simp [findT] at h
  | (k, r) :: l, ⟨h1, h2⟩, t, r', h => by
    simp only [findT] at h
    split at h
    · rename_i hb; cases h; obtain rfl := Nat.eq_of_beq_eq_true hb; exact h1
    · exact findT_ok l h2 t r' h
theorem row3 : TRow.ok prog 3 ⟨(.int .i64), [(.int .i64 0)], false, 1, 8⟩ := ⟨Go.Proofs.Tryz.underlying3, rfl, Go.Proofs.Tryz.t3, by kernel_rfl, by kernel_rfl, by kernel_rfl, by kernel_rfl, fun _ => ⟨_, rfl, rfl⟩⟩
theorem row53 : TRow.ok prog 53 ⟨(.struct ⟨[⟨"LSN", 3, 0, false, "", "", 0⟩, ⟨"Kind", 41, 1, false, "", "", 8⟩, ⟨"Tx", 3, 2, false, "", "", 16⟩, ⟨"Prev", 3, 3, false, "", "", 24⟩, ⟨"Where", 43, 4, false, "", "", 32⟩, ⟨"Sums", 43, 6, false, "", "", 48⟩, ⟨"Delta", 2, 8, false, "", "", 64⟩, ⟨"Counter", 47, 9, false, "", "", 72⟩, ⟨"Points", 51, 14, false, "", "", 112⟩]⟩), [(.int .i64 0), (.int .i64 0), (.int .i64 0), (.int .i64 0), (.int .i64 0), (.int .i64 0), (.int .i64 0), (.int .i64 0), (.int .i64 0), (.int .i64 0), (.int .i64 0), (.int .i64 0), (.int .i64 0), (.int .i64 0), (.slice none 0 0), (.slice none 0 0), (.int .i64 0)], true, 17, 168⟩ := ⟨Go.Proofs.Tryz.underlying53, rfl, Go.Proofs.Tryz.t53, by kernel_rfl, by kernel_rfl, by kernel_rfl, by kernel_rfl, fun h => by cases h⟩
theorem row22 : TRow.ok prog 22 ⟨(.slice 53), [(.slice none 0 0)], false, 1, 24⟩ := ⟨Go.Proofs.Tryz.underlying22, rfl, Go.Proofs.Tryz.t22, by kernel_rfl, by kernel_rfl, by kernel_rfl, by kernel_rfl, fun _ => ⟨_, rfl, rfl⟩⟩
theorem row2 : TRow.ok prog 2 ⟨(.int .i64), [(.int .i64 0)], false, 1, 8⟩ := ⟨Go.Proofs.Tryz.underlying2, rfl, Go.Proofs.Tryz.t2, by kernel_rfl, by kernel_rfl, by kernel_rfl, by kernel_rfl, fun _ => ⟨_, rfl, rfl⟩⟩
theorem row78 : TRow.ok prog 78 ⟨(.struct ⟨[⟨"Pages", 3, 0, false, "", "", 0⟩, ⟨"R", 22, 1, false, "", "", 8⟩, ⟨"L", 73, 2, false, "", "", 32⟩, ⟨"Groups", 74, 3, false, "", "", 56⟩, ⟨"IDs", 35, 4, false, "", "", 80⟩, ⟨"Live", 75, 5, false, "", "", 104⟩, ⟨"Next", 3, 6, false, "", "", 128⟩, ⟨"Settled", 76, 7, false, "", "", 136⟩]⟩), [(.int .i64 0), (.slice none 0 0), (.slice none 0 0), (.slice none 0 0), (.slice none 0 0), (.slice none 0 0), (.int .i64 0), (.slice none 0 0)], true, 8, 160⟩ := ⟨Go.Proofs.Tryz.underlying78, rfl, Go.Proofs.Tryz.t78, by kernel_rfl, by kernel_rfl, by kernel_rfl, by kernel_rfl, fun h => by cases h⟩
theorem row75 : TRow.ok prog 75 ⟨(.slice 156), [(.slice none 0 0)], false, 1, 24⟩ := ⟨Go.Proofs.Tryz.underlying75, rfl, Go.Proofs.Tryz.t75, by kernel_rfl, by kernel_rfl, by kernel_rfl, by kernel_rfl, fun _ => ⟨_, rfl, rfl⟩⟩
theorem row43 : TRow.ok prog 43 ⟨(.struct ⟨[⟨"Page", 3, 0, false, "", "", 0⟩, ⟨"Index", 3, 1, false, "", "", 8⟩]⟩), [(.int .i64 0), (.int .i64 0)], true, 2, 16⟩ := ⟨Go.Proofs.Tryz.underlying43, rfl, Go.Proofs.Tryz.t43, by kernel_rfl, by kernel_rfl, by kernel_rfl, by kernel_rfl, fun h => by cases h⟩
theorem row35 : TRow.ok prog 35 ⟨(.slice 3), [(.slice none 0 0)], false, 1, 24⟩ := ⟨Go.Proofs.Tryz.underlying35, rfl, Go.Proofs.Tryz.t35, by kernel_rfl, by kernel_rfl, by kernel_rfl, by kernel_rfl, fun _ => ⟨_, rfl, rfl⟩⟩
theorem row156 : TRow.ok prog 156 ⟨(.struct ⟨[⟨"Tx", 3, 0, false, "", "", 0⟩, ⟨"Last", 3, 1, false, "", "", 8⟩, ⟨"Committed", 4, 2, false, "", "", 16⟩, ⟨"Nets", 76, 3, false, "", "", 24⟩, ⟨"Holds", 154, 4, false, "", "", 48⟩]⟩), [(.int .i64 0), (.int .i64 0), (.bool false), (.slice none 0 0), (.slice none 0 0)], true, 5, 72⟩ := ⟨Go.Proofs.Tryz.underlying156, rfl, Go.Proofs.Tryz.t156, by kernel_rfl, by kernel_rfl, by kernel_rfl, by kernel_rfl, fun h => by cases h⟩
theorem row113 : TRow.ok prog 113 ⟨(.struct ⟨[⟨"high", 2, 0, false, "", "quota/interval", 0⟩, ⟨"low", 111, 1, false, "", "quota/interval", 8⟩]⟩), [(.int .i64 0), (.int .u64 0)], true, 2, 16⟩ := ⟨Go.Proofs.Tryz.underlying113, rfl, Go.Proofs.Tryz.t113, by kernel_rfl, by kernel_rfl, by kernel_rfl, by kernel_rfl, fun h => by cases h⟩
theorem row47 : TRow.ok prog 47 ⟨(.struct ⟨[⟨"ID", 3, 0, false, "", "", 0⟩, ⟨"Group", 3, 1, false, "", "", 8⟩, ⟨"Bounds", 45, 2, false, "", "", 16⟩, ⟨"Value", 2, 4, false, "", "", 32⟩]⟩), [(.int .i64 0), (.int .i64 0), (.int .i64 0), (.int .i64 0), (.int .i64 0)], true, 5, 40⟩ := ⟨Go.Proofs.Tryz.underlying47, rfl, Go.Proofs.Tryz.t47, by kernel_rfl, by kernel_rfl, by kernel_rfl, by kernel_rfl, fun h => by cases h⟩
theorem row40 : TRow.ok prog 40 ⟨(.slice 22), [(.slice none 0 0)], false, 1, 24⟩ := ⟨Go.Proofs.Tryz.underlying40, rfl, Go.Proofs.Tryz.t40, by kernel_rfl, by kernel_rfl, by kernel_rfl, by kernel_rfl, fun _ => ⟨_, rfl, rfl⟩⟩
theorem row73 : TRow.ok prog 73 ⟨(.slice 215), [(.slice none 0 0)], false, 1, 24⟩ := ⟨Go.Proofs.Tryz.underlying73, rfl, Go.Proofs.Tryz.t73, by kernel_rfl, by kernel_rfl, by kernel_rfl, by kernel_rfl, fun _ => ⟨_, rfl, rfl⟩⟩
theorem row25 : TRow.ok prog 25 ⟨(.int .i64), [(.int .i64 0)], false, 1, 8⟩ := ⟨Go.Proofs.Tryz.underlying25, rfl, Go.Proofs.Tryz.t25, by kernel_rfl, by kernel_rfl, by kernel_rfl, by kernel_rfl, fun _ => ⟨_, rfl, rfl⟩⟩
theorem row76 : TRow.ok prog 76 ⟨(.slice 2), [(.slice none 0 0)], false, 1, 24⟩ := ⟨Go.Proofs.Tryz.underlying76, rfl, Go.Proofs.Tryz.t76, by kernel_rfl, by kernel_rfl, by kernel_rfl, by kernel_rfl, fun _ => ⟨_, rfl, rfl⟩⟩
theorem row33 : TRow.ok prog 33 ⟨(.struct ⟨[⟨"Pages", 3, 0, false, "", "", 0⟩, ⟨"Log", 3, 1, false, "", "", 8⟩, ⟨"Frames", 3, 2, false, "", "", 16⟩]⟩), [(.int .i64 0), (.int .i64 0), (.int .i64 0)], true, 3, 24⟩ := ⟨Go.Proofs.Tryz.underlying33, rfl, Go.Proofs.Tryz.t33, by kernel_rfl, by kernel_rfl, by kernel_rfl, by kernel_rfl, fun h => by cases h⟩
theorem row41 : TRow.ok prog 41 ⟨(.int .i64), [(.int .i64 0)], false, 1, 8⟩ := ⟨Go.Proofs.Tryz.underlying41, rfl, Go.Proofs.Tryz.t41, by kernel_rfl, by kernel_rfl, by kernel_rfl, by kernel_rfl, fun _ => ⟨_, rfl, rfl⟩⟩
theorem row111 : TRow.ok prog 111 ⟨(.int .u64), [(.int .u64 0)], false, 1, 8⟩ := ⟨Go.Proofs.Tryz.underlying111, rfl, Go.Proofs.Tryz.t111, by kernel_rfl, by kernel_rfl, by kernel_rfl, by kernel_rfl, fun _ => ⟨_, rfl, rfl⟩⟩
theorem row70 : TRow.ok prog 70 ⟨(.struct ⟨[⟨"H", 2, 0, false, "", "", 0⟩, ⟨"L", 2, 1, false, "", "", 8⟩]⟩), [(.int .i64 0), (.int .i64 0)], true, 2, 16⟩ := ⟨Go.Proofs.Tryz.underlying70, rfl, Go.Proofs.Tryz.t70, by kernel_rfl, by kernel_rfl, by kernel_rfl, by kernel_rfl, fun h => by cases h⟩
theorem row4 : TRow.ok prog 4 ⟨.bool, [(.bool false)], false, 1, 1⟩ := ⟨Go.Proofs.Tryz.underlying4, rfl, Go.Proofs.Tryz.t4, by kernel_rfl, by kernel_rfl, by kernel_rfl, by kernel_rfl, fun _ => ⟨_, rfl, rfl⟩⟩
theorem row96 : TRow.ok prog 96 ⟨(.struct ⟨[⟨"log", 81, 0, false, "", "quota/undo", 0⟩, ⟨"table", 83, 1, false, "", "quota/undo", 8⟩, ⟨"tx", 3, 2, false, "", "quota/undo", 16⟩]⟩), [(.pointer none), (.pointer none), (.int .i64 0)], true, 3, 24⟩ := ⟨Go.Proofs.Tryz.underlying96, rfl, Go.Proofs.Tryz.t96, by kernel_rfl, by kernel_rfl, by kernel_rfl, by kernel_rfl, fun h => by cases h⟩
theorem row37 : TRow.ok prog 37 ⟨(.struct ⟨[⟨"Shape", 33, 0, false, "", "", 0⟩, ⟨"Deeds", 34, 3, false, "", "", 24⟩, ⟨"Old", 35, 4, false, "", "", 48⟩]⟩), [(.int .i64 0), (.int .i64 0), (.int .i64 0), (.slice none 0 0), (.slice none 0 0)], true, 5, 72⟩ := ⟨Go.Proofs.Tryz.underlying37, rfl, Go.Proofs.Tryz.t37, by kernel_rfl, by kernel_rfl, by kernel_rfl, by kernel_rfl, fun h => by cases h⟩
theorem row79 : TRow.ok prog 79 ⟨(.pointer 78), [(.pointer none)], false, 1, 8⟩ := ⟨Go.Proofs.Tryz.underlying79, rfl, Go.Proofs.Tryz.t79, by kernel_rfl, by kernel_rfl, by kernel_rfl, by kernel_rfl, fun _ => ⟨_, rfl, rfl⟩⟩
theorem row121 : TRow.ok prog 121 ⟨(.struct ⟨[⟨"Kind", 3, 0, false, "", "", 0⟩, ⟨"A", 3, 1, false, "", "", 8⟩, ⟨"B", 3, 2, false, "", "", 16⟩, ⟨"D", 2, 3, false, "", "", 24⟩]⟩), [(.int .i64 0), (.int .i64 0), (.int .i64 0), (.int .i64 0)], true, 4, 32⟩ := ⟨Go.Proofs.Tryz.underlying121, rfl, Go.Proofs.Tryz.t121, by kernel_rfl, by kernel_rfl, by kernel_rfl, by kernel_rfl, fun h => by cases h⟩
theorem row56 : TRow.ok prog 56 ⟨(.interface #[("Error", 308)]), [.nilIface], false, 1, 16⟩ := ⟨Go.Proofs.Tryz.underlying56, rfl, Go.Proofs.Tryz.t56, by kernel_rfl, by kernel_rfl, by kernel_rfl, by kernel_rfl, fun _ => ⟨_, rfl, rfl⟩⟩
theorem row60 : TRow.ok prog 60 ⟨(.map 3 53), [(.map none)], false, 1, 8⟩ := ⟨Go.Proofs.Tryz.underlying60, rfl, Go.Proofs.Tryz.t60, by kernel_rfl, by kernel_rfl, by kernel_rfl, by kernel_rfl, fun _ => ⟨_, rfl, rfl⟩⟩
theorem row74 : TRow.ok prog 74 ⟨(.slice 43), [(.slice none 0 0)], false, 1, 24⟩ := ⟨Go.Proofs.Tryz.underlying74, rfl, Go.Proofs.Tryz.t74, by kernel_rfl, by kernel_rfl, by kernel_rfl, by kernel_rfl, fun _ => ⟨_, rfl, rfl⟩⟩
theorem row82 : TRow.ok prog 82 ⟨(.pointer 177), [(.pointer none)], false, 1, 8⟩ := ⟨Go.Proofs.Tryz.underlying82, rfl, Go.Proofs.Tryz.t82, by kernel_rfl, by kernel_rfl, by kernel_rfl, by kernel_rfl, fun _ => ⟨_, rfl, rfl⟩⟩
theorem row104 : TRow.ok prog 104 ⟨(.struct ⟨[⟨"Number", 3, 0, false, "", "", 0⟩, ⟨"LSN", 3, 1, false, "", "", 8⟩, ⟨"Counters", 101, 2, false, "", "", 16⟩, ⟨"Groups", 102, 3, false, "", "", 40⟩]⟩), [(.int .i64 0), (.int .i64 0), (.slice none 0 0), (.slice none 0 0)], true, 4, 64⟩ := ⟨Go.Proofs.Tryz.underlying104, rfl, Go.Proofs.Tryz.t104, by kernel_rfl, by kernel_rfl, by kernel_rfl, by kernel_rfl, fun h => by cases h⟩
theorem row81 : TRow.ok prog 81 ⟨(.pointer 161), [(.pointer none)], false, 1, 8⟩ := ⟨Go.Proofs.Tryz.underlying81, rfl, Go.Proofs.Tryz.t81, by kernel_rfl, by kernel_rfl, by kernel_rfl, by kernel_rfl, fun _ => ⟨_, rfl, rfl⟩⟩
theorem row83 : TRow.ok prog 83 ⟨(.pointer 126), [(.pointer none)], false, 1, 8⟩ := ⟨Go.Proofs.Tryz.underlying83, rfl, Go.Proofs.Tryz.t83, by kernel_rfl, by kernel_rfl, by kernel_rfl, by kernel_rfl, fun _ => ⟨_, rfl, rfl⟩⟩
theorem row91 : TRow.ok prog 91 ⟨(.struct ⟨[⟨"Tx", 3, 0, false, "", "", 0⟩, ⟨"Last", 3, 1, false, "", "", 8⟩, ⟨"Committed", 4, 2, false, "", "", 16⟩, ⟨"Undoing", 4, 3, false, "", "", 17⟩]⟩), [(.int .i64 0), (.int .i64 0), (.bool false), (.bool false)], true, 4, 24⟩ := ⟨Go.Proofs.Tryz.underlying91, rfl, Go.Proofs.Tryz.t91, by kernel_rfl, by kernel_rfl, by kernel_rfl, by kernel_rfl, fun h => by cases h⟩
theorem row215 : TRow.ok prog 215 ⟨(.struct ⟨[⟨"C", 47, 0, false, "", "", 0⟩, ⟨"Where", 43, 5, false, "", "", 40⟩, ⟨"Sums", 43, 7, false, "", "", 56⟩]⟩), [(.int .i64 0), (.int .i64 0), (.int .i64 0), (.int .i64 0), (.int .i64 0), (.int .i64 0), (.int .i64 0), (.int .i64 0), (.int .i64 0)], true, 9, 72⟩ := ⟨Go.Proofs.Tryz.underlying215, rfl, Go.Proofs.Tryz.t215, by kernel_rfl, by kernel_rfl, by kernel_rfl, by kernel_rfl, fun h => by cases h⟩
theorem row51 : TRow.ok prog 51 ⟨(.struct ⟨[⟨"Live", 48, 0, false, "", "", 0⟩, ⟨"Dirty", 49, 1, false, "", "", 24⟩, ⟨"Next", 3, 2, false, "", "", 48⟩]⟩), [(.slice none 0 0), (.slice none 0 0), (.int .i64 0)], true, 3, 56⟩ := ⟨Go.Proofs.Tryz.underlying51, rfl, Go.Proofs.Tryz.t51, by kernel_rfl, by kernel_rfl, by kernel_rfl, by kernel_rfl, fun h => by cases h⟩
theorem row85 : TRow.ok prog 85 ⟨(.struct ⟨[⟨"err", 25, 0, false, "", "quota/undo", 0⟩]⟩), [(.int .i64 0)], true, 1, 8⟩ := ⟨Go.Proofs.Tryz.underlying85, rfl, Go.Proofs.Tryz.t85, by kernel_rfl, by kernel_rfl, by kernel_rfl, by kernel_rfl, fun h => by cases h⟩
theorem row88 : TRow.ok prog 88 ⟨(.struct ⟨[⟨"Call", 9, 0, false, "", "", 0⟩, ⟨"At", 3, 1, false, "", "", 16⟩, ⟨"Err", 56, 2, false, "", "", 24⟩]⟩), [(.string ⟨#[]⟩), (.int .i64 0), .nilIface], true, 3, 40⟩ := ⟨Go.Proofs.Tryz.underlying88, rfl, Go.Proofs.Tryz.t88, by kernel_rfl, by kernel_rfl, by kernel_rfl, by kernel_rfl, fun h => by cases h⟩
theorem row154 : TRow.ok prog 154 ⟨(.slice 4), [(.slice none 0 0)], false, 1, 24⟩ := ⟨Go.Proofs.Tryz.underlying154, rfl, Go.Proofs.Tryz.t154, by kernel_rfl, by kernel_rfl, by kernel_rfl, by kernel_rfl, fun _ => ⟨_, rfl, rfl⟩⟩
theorem row34 : TRow.ok prog 34 ⟨(.slice 121), [(.slice none 0 0)], false, 1, 24⟩ := ⟨Go.Proofs.Tryz.underlying34, rfl, Go.Proofs.Tryz.t34, by kernel_rfl, by kernel_rfl, by kernel_rfl, by kernel_rfl, fun _ => ⟨_, rfl, rfl⟩⟩
theorem row48 : TRow.ok prog 48 ⟨(.slice 91), [(.slice none 0 0)], false, 1, 24⟩ := ⟨Go.Proofs.Tryz.underlying48, rfl, Go.Proofs.Tryz.t48, by kernel_rfl, by kernel_rfl, by kernel_rfl, by kernel_rfl, fun _ => ⟨_, rfl, rfl⟩⟩
theorem row49 : TRow.ok prog 49 ⟨(.slice 219), [(.slice none 0 0)], false, 1, 24⟩ := ⟨Go.Proofs.Tryz.underlying49, rfl, Go.Proofs.Tryz.t49, by kernel_rfl, by kernel_rfl, by kernel_rfl, by kernel_rfl, fun _ => ⟨_, rfl, rfl⟩⟩
theorem row66 : TRow.ok prog 66 ⟨(.func #[117] #[] false), [.nilFunc], false, 1, 8⟩ := ⟨Go.Proofs.Tryz.underlying66, rfl, Go.Proofs.Tryz.t66, by kernel_rfl, by kernel_rfl, by kernel_rfl, by kernel_rfl, fun _ => ⟨_, rfl, rfl⟩⟩
theorem row86 : TRow.ok prog 86 ⟨(.pointer 88), [(.pointer none)], false, 1, 8⟩ := ⟨Go.Proofs.Tryz.underlying86, rfl, Go.Proofs.Tryz.t86, by kernel_rfl, by kernel_rfl, by kernel_rfl, by kernel_rfl, fun _ => ⟨_, rfl, rfl⟩⟩
theorem row9 : TRow.ok prog 9 ⟨.string, [(.string ⟨#[]⟩)], false, 1, 16⟩ := ⟨Go.Proofs.Tryz.underlying9, rfl, Go.Proofs.Tryz.t9, by kernel_rfl, by kernel_rfl, by kernel_rfl, by kernel_rfl, fun _ => ⟨_, rfl, rfl⟩⟩
theorem row20 : TRow.ok prog 20 ⟨(.interface #[]), [.nilIface], false, 1, 16⟩ := ⟨Go.Proofs.Tryz.underlying20, rfl, Go.Proofs.Tryz.t20, by kernel_rfl, by kernel_rfl, by kernel_rfl, by kernel_rfl, fun _ => ⟨_, rfl, rfl⟩⟩
theorem row118 : TRow.ok prog 118 ⟨(.int .u64), [(.int .u64 0)], false, 1, 8⟩ := ⟨Go.Proofs.Tryz.underlying118, rfl, Go.Proofs.Tryz.t118, by kernel_rfl, by kernel_rfl, by kernel_rfl, by kernel_rfl, fun _ => ⟨_, rfl, rfl⟩⟩
theorem row98 : TRow.ok prog 98 ⟨(.func #[3] #[] false), [.nilFunc], false, 1, 8⟩ := ⟨Go.Proofs.Tryz.underlying98, rfl, Go.Proofs.Tryz.t98, by kernel_rfl, by kernel_rfl, by kernel_rfl, by kernel_rfl, fun _ => ⟨_, rfl, rfl⟩⟩
theorem row45 : TRow.ok prog 45 ⟨(.struct ⟨[⟨"Lo", 2, 0, false, "", "", 0⟩, ⟨"Hi", 2, 1, false, "", "", 8⟩]⟩), [(.int .i64 0), (.int .i64 0)], true, 2, 16⟩ := ⟨Go.Proofs.Tryz.underlying45, rfl, Go.Proofs.Tryz.t45, by kernel_rfl, by kernel_rfl, by kernel_rfl, by kernel_rfl, fun h => by cases h⟩
theorem row101 : TRow.ok prog 101 ⟨(.slice 47), [(.slice none 0 0)], false, 1, 24⟩ := ⟨Go.Proofs.Tryz.underlying101, rfl, Go.Proofs.Tryz.t101, by kernel_rfl, by kernel_rfl, by kernel_rfl, by kernel_rfl, fun _ => ⟨_, rfl, rfl⟩⟩
theorem row102 : TRow.ok prog 102 ⟨(.slice 189), [(.slice none 0 0)], false, 1, 24⟩ := ⟨Go.Proofs.Tryz.underlying102, rfl, Go.Proofs.Tryz.t102, by kernel_rfl, by kernel_rfl, by kernel_rfl, by kernel_rfl, fun _ => ⟨_, rfl, rfl⟩⟩
theorem row189 : TRow.ok prog 189 ⟨(.struct ⟨[⟨"ID", 3, 0, false, "", "", 0⟩, ⟨"Sum", 2, 1, false, "", "", 8⟩]⟩), [(.int .i64 0), (.int .i64 0)], true, 2, 16⟩ := ⟨Go.Proofs.Tryz.underlying189, rfl, Go.Proofs.Tryz.t189, by kernel_rfl, by kernel_rfl, by kernel_rfl, by kernel_rfl, fun h => by cases h⟩
theorem row219 : TRow.ok prog 219 ⟨(.struct ⟨[⟨"Page", 3, 0, false, "", "", 0⟩, ⟨"Since", 3, 1, false, "", "", 8⟩]⟩), [(.int .i64 0), (.int .i64 0)], true, 2, 16⟩ := ⟨Go.Proofs.Tryz.underlying219, rfl, Go.Proofs.Tryz.t219, by kernel_rfl, by kernel_rfl, by kernel_rfl, by kernel_rfl, fun h => by cases h⟩
theorem u_int : prog.underlying t_int = some (.int .i64) := Go.Proofs.Tryz.underlying3
theorem u_api_Record : prog.underlying t_api_Record = some (.struct ⟨[⟨"LSN", 3, 0, false, "", "", 0⟩, ⟨"Kind", 41, 1, false, "", "", 8⟩, ⟨"Tx", 3, 2, false, "", "", 16⟩, ⟨"Prev", 3, 3, false, "", "", 24⟩, ⟨"Where", 43, 4, false, "", "", 32⟩, ⟨"Sums", 43, 6, false, "", "", 48⟩, ⟨"Delta", 2, 8, false, "", "", 64⟩, ⟨"Counter", 47, 9, false, "", "", 72⟩, ⟨"Points", 51, 14, false, "", "", 112⟩]⟩) := Go.Proofs.Tryz.underlying53
theorem u_S_api_Record : prog.underlying t_S_api_Record = some (.slice 53) := Go.Proofs.Tryz.underlying22
theorem u_int64 : prog.underlying t_int64 = some (.int .i64) := Go.Proofs.Tryz.underlying2
theorem u_quotaref18_Story : prog.underlying t_quotaref18_Story = some (.struct ⟨[⟨"Pages", 3, 0, false, "", "", 0⟩, ⟨"R", 22, 1, false, "", "", 8⟩, ⟨"L", 73, 2, false, "", "", 32⟩, ⟨"Groups", 74, 3, false, "", "", 56⟩, ⟨"IDs", 35, 4, false, "", "", 80⟩, ⟨"Live", 75, 5, false, "", "", 104⟩, ⟨"Next", 3, 6, false, "", "", 128⟩, ⟨"Settled", 76, 7, false, "", "", 136⟩]⟩) := Go.Proofs.Tryz.underlying78
theorem u_S_quotaref18_Open : prog.underlying t_S_quotaref18_Open = some (.slice 156) := Go.Proofs.Tryz.underlying75
theorem u_api_Slot : prog.underlying t_api_Slot = some (.struct ⟨[⟨"Page", 3, 0, false, "", "", 0⟩, ⟨"Index", 3, 1, false, "", "", 8⟩]⟩) := Go.Proofs.Tryz.underlying43
theorem u_S_int : prog.underlying t_S_int = some (.slice 3) := Go.Proofs.Tryz.underlying35
theorem u_quotaref18_Open : prog.underlying t_quotaref18_Open = some (.struct ⟨[⟨"Tx", 3, 0, false, "", "", 0⟩, ⟨"Last", 3, 1, false, "", "", 8⟩, ⟨"Committed", 4, 2, false, "", "", 16⟩, ⟨"Nets", 76, 3, false, "", "", 24⟩, ⟨"Holds", 154, 4, false, "", "", 48⟩]⟩) := Go.Proofs.Tryz.underlying156
theorem u_interval_wide : prog.underlying t_interval_wide = some (.struct ⟨[⟨"high", 2, 0, false, "", "quota/interval", 0⟩, ⟨"low", 111, 1, false, "", "quota/interval", 8⟩]⟩) := Go.Proofs.Tryz.underlying113
theorem u_api_Counter : prog.underlying t_api_Counter = some (.struct ⟨[⟨"ID", 3, 0, false, "", "", 0⟩, ⟨"Group", 3, 1, false, "", "", 8⟩, ⟨"Bounds", 45, 2, false, "", "", 16⟩, ⟨"Value", 2, 4, false, "", "", 32⟩]⟩) := Go.Proofs.Tryz.underlying47
theorem u_S_S_api_Record : prog.underlying t_S_S_api_Record = some (.slice 22) := Go.Proofs.Tryz.underlying40
theorem u_S_quotaref18_Place : prog.underlying t_S_quotaref18_Place = some (.slice 215) := Go.Proofs.Tryz.underlying73
theorem u_api_Errno : prog.underlying t_api_Errno = some (.int .i64) := Go.Proofs.Tryz.underlying25
theorem u_S_int64 : prog.underlying t_S_int64 = some (.slice 2) := Go.Proofs.Tryz.underlying76
theorem u_api_Shape : prog.underlying t_api_Shape = some (.struct ⟨[⟨"Pages", 3, 0, false, "", "", 0⟩, ⟨"Log", 3, 1, false, "", "", 8⟩, ⟨"Frames", 3, 2, false, "", "", 16⟩]⟩) := Go.Proofs.Tryz.underlying33
theorem u_api_Kind : prog.underlying t_api_Kind = some (.int .i64) := Go.Proofs.Tryz.underlying41
theorem u_uint64 : prog.underlying t_uint64 = some (.int .u64) := Go.Proofs.Tryz.underlying111
theorem u_quotaref10_Wide : prog.underlying t_quotaref10_Wide = some (.struct ⟨[⟨"H", 2, 0, false, "", "", 0⟩, ⟨"L", 2, 1, false, "", "", 8⟩]⟩) := Go.Proofs.Tryz.underlying70
theorem u_bool : prog.underlying t_bool = some .bool := Go.Proofs.Tryz.underlying4
theorem u_undo_run : prog.underlying t_undo_run = some (.struct ⟨[⟨"log", 81, 0, false, "", "quota/undo", 0⟩, ⟨"table", 83, 1, false, "", "quota/undo", 8⟩, ⟨"tx", 3, 2, false, "", "quota/undo", 16⟩]⟩) := Go.Proofs.Tryz.underlying96
theorem u_quotalaw19_Life : prog.underlying t_quotalaw19_Life = some (.struct ⟨[⟨"Shape", 33, 0, false, "", "", 0⟩, ⟨"Deeds", 34, 3, false, "", "", 24⟩, ⟨"Old", 35, 4, false, "", "", 48⟩]⟩) := Go.Proofs.Tryz.underlying37
theorem u_P_quotaref18_Story : prog.underlying t_P_quotaref18_Story = some (.pointer 78) := Go.Proofs.Tryz.underlying79
theorem u_quotaref18_Deed : prog.underlying t_quotaref18_Deed = some (.struct ⟨[⟨"Kind", 3, 0, false, "", "", 0⟩, ⟨"A", 3, 1, false, "", "", 8⟩, ⟨"B", 3, 2, false, "", "", 16⟩, ⟨"D", 2, 3, false, "", "", 24⟩]⟩) := Go.Proofs.Tryz.underlying121
theorem u_error : prog.underlying t_error = some (.interface #[("Error", 308)]) := Go.Proofs.Tryz.underlying56
theorem u_M_int_api_Record : prog.underlying t_M_int_api_Record = some (.map 3 53) := Go.Proofs.Tryz.underlying60
theorem u_S_api_Slot : prog.underlying t_S_api_Slot = some (.slice 43) := Go.Proofs.Tryz.underlying74
theorem u_P_pool_Pool : prog.underlying t_P_pool_Pool = some (.pointer 177) := Go.Proofs.Tryz.underlying82
theorem u_page_Page : prog.underlying t_page_Page = some (.struct ⟨[⟨"Number", 3, 0, false, "", "", 0⟩, ⟨"LSN", 3, 1, false, "", "", 8⟩, ⟨"Counters", 101, 2, false, "", "", 16⟩, ⟨"Groups", 102, 3, false, "", "", 40⟩]⟩) := Go.Proofs.Tryz.underlying104
theorem u_P_log_Log : prog.underlying t_P_log_Log = some (.pointer 161) := Go.Proofs.Tryz.underlying81
theorem u_P_txns_Table : prog.underlying t_P_txns_Table = some (.pointer 126) := Go.Proofs.Tryz.underlying83
theorem u_api_Live : prog.underlying t_api_Live = some (.struct ⟨[⟨"Tx", 3, 0, false, "", "", 0⟩, ⟨"Last", 3, 1, false, "", "", 8⟩, ⟨"Committed", 4, 2, false, "", "", 16⟩, ⟨"Undoing", 4, 3, false, "", "", 17⟩]⟩) := Go.Proofs.Tryz.underlying91
theorem u_quotaref18_Place : prog.underlying t_quotaref18_Place = some (.struct ⟨[⟨"C", 47, 0, false, "", "", 0⟩, ⟨"Where", 43, 5, false, "", "", 40⟩, ⟨"Sums", 43, 7, false, "", "", 56⟩]⟩) := Go.Proofs.Tryz.underlying215
theorem u_api_Points : prog.underlying t_api_Points = some (.struct ⟨[⟨"Live", 48, 0, false, "", "", 0⟩, ⟨"Dirty", 49, 1, false, "", "", 24⟩, ⟨"Next", 3, 2, false, "", "", 48⟩]⟩) := Go.Proofs.Tryz.underlying51
theorem u_undo_refusal : prog.underlying t_undo_refusal = some (.struct ⟨[⟨"err", 25, 0, false, "", "quota/undo", 0⟩]⟩) := Go.Proofs.Tryz.underlying85
theorem u_api_Fault : prog.underlying t_api_Fault = some (.struct ⟨[⟨"Call", 9, 0, false, "", "", 0⟩, ⟨"At", 3, 1, false, "", "", 16⟩, ⟨"Err", 56, 2, false, "", "", 24⟩]⟩) := Go.Proofs.Tryz.underlying88
theorem u_S_bool : prog.underlying t_S_bool = some (.slice 4) := Go.Proofs.Tryz.underlying154
theorem u_S_quotaref18_Deed : prog.underlying t_S_quotaref18_Deed = some (.slice 121) := Go.Proofs.Tryz.underlying34
theorem u_S_api_Live : prog.underlying t_S_api_Live = some (.slice 91) := Go.Proofs.Tryz.underlying48
theorem u_S_api_Dirty : prog.underlying t_S_api_Dirty = some (.slice 219) := Go.Proofs.Tryz.underlying49
theorem u_iter_Seq_int : prog.underlying t_iter_Seq_int = some (.func #[117] #[] false) := Go.Proofs.Tryz.underlying66
theorem u_P_api_Fault : prog.underlying t_P_api_Fault = some (.pointer 88) := Go.Proofs.Tryz.underlying86
theorem u_string : prog.underlying t_string = some .string := Go.Proofs.Tryz.underlying9
theorem u_interface : prog.underlying t_interface = some (.interface #[]) := Go.Proofs.Tryz.underlying20
theorem u_uint : prog.underlying t_uint = some (.int .u64) := Go.Proofs.Tryz.underlying118
theorem u_funcint : prog.underlying t_funcint = some (.func #[3] #[] false) := Go.Proofs.Tryz.underlying98
theorem u_api_Range : prog.underlying t_api_Range = some (.struct ⟨[⟨"Lo", 2, 0, false, "", "", 0⟩, ⟨"Hi", 2, 1, false, "", "", 8⟩]⟩) := Go.Proofs.Tryz.underlying45
theorem u_S_api_Counter : prog.underlying t_S_api_Counter = some (.slice 47) := Go.Proofs.Tryz.underlying101
theorem u_S_api_Group : prog.underlying t_S_api_Group = some (.slice 189) := Go.Proofs.Tryz.underlying102
theorem u_api_Group : prog.underlying t_api_Group = some (.struct ⟨[⟨"ID", 3, 0, false, "", "", 0⟩, ⟨"Sum", 2, 1, false, "", "", 8⟩]⟩) := Go.Proofs.Tryz.underlying189
theorem u_api_Dirty : prog.underlying t_api_Dirty = some (.struct ⟨[⟨"Page", 3, 0, false, "", "", 0⟩, ⟨"Since", 3, 1, false, "", "", 8⟩]⟩) := Go.Proofs.Tryz.underlying219
theorem tab_ok : Tab.ok tab prog := findT_ok rows (⟨row3, row53, row22, row2, row78, row75, row43, row35, row156, row113, row47, row40, row73, row25, row76, row33, row41, row111, row70, row4, row96, row37, row79, row121, row56, row60, row74, row82, row104, row81, row83, row91, row215, row51, row85, row88, row154, row34, row48, row49, row66, row86, row9, row20, row118, row98, row45, row101, row102, row189, row219, trivial⟩)
theorem mixed : prog.follows .mixedOrders = true := by kernel_rfl
theorem f_math_bits_Add64.fn : prog.funcs[f_math_bits_Add64]? = some Go.Proofs.Tryz.f60 := Go.Proofs.Tryz.func60
theorem f_math_bits_Sub64.fn : prog.funcs[f_math_bits_Sub64]? = some Go.Proofs.Tryz.f140 := Go.Proofs.Tryz.func140
noncomputable abbrev f_quotalaw19_UndoLefts.def : Func := Go.Proofs.Tryz.f3
theorem f_quotalaw19_UndoLefts.fn : prog.funcs[f_quotalaw19_UndoLefts]? = some f_quotalaw19_UndoLefts.def := Go.Proofs.Tryz.func3
theorem f_quotalaw19_UndoLefts.ok : Callable prog f_quotalaw19_UndoLefts := callable_of Go.Proofs.Tryz.func3 (by kernel_rfl) rfl
def f_quotalaw19_UndoLefts.live : Nat → Option (List Nat) := fun i => match i with
  | 0 => some [0, 1]
  | 1 => some [0, 1, 11]
  | 2 => some [4]
  | 3 => some [0, 1, 5]
  | 4 => some [0, 1, 5, 6, 7]
  | 5 => some [0, 5, 6, 7, 8, 9]
  | 6 => some [4]
  | _ => none
theorem f_quotalaw19_UndoLefts.does {W : World} {H : HProp} {R : Ending → HProp → Prop} (a0 a1 : Value) (h : exec prog W tab 39 f_quotalaw19_UndoLefts.live (codeOf Go.Proofs.Tryz.f3) (bodyQ prog W tab [.tmp 4] R) (argFr 0 [a0, a1]) [] H) : Does prog W f_quotalaw19_UndoLefts ⟨[a0, a1]⟩ H R :=
  Does.of_exec tab_ok f_quotalaw19_UndoLefts.live Go.Proofs.Tryz.func3 rfl rfl rfl (by simp) h
noncomputable abbrev f_quotalaw19_UndoOwn.def : Func := Go.Proofs.Tryz.f4
theorem f_quotalaw19_UndoOwn.fn : prog.funcs[f_quotalaw19_UndoOwn]? = some f_quotalaw19_UndoOwn.def := Go.Proofs.Tryz.func4
theorem f_quotalaw19_UndoOwn.ok : Callable prog f_quotalaw19_UndoOwn := callable_of Go.Proofs.Tryz.func4 (by kernel_rfl) rfl
def f_quotalaw19_UndoOwn.live : Nat → Option (List Nat) := fun i => match i with
  | 0 => some [1, 2]
  | 1 => some [1, 2, 25]
  | 2 => some [4]
  | 3 => some [1, 5]
  | 4 => some [1, 5, 6, 7]
  | 5 => some [1, 5, 6, 7, 8]
  | 6 => some [1, 5, 6, 7, 8, 32]
  | 7 => some [1, 5, 6, 7, 8]
  | 8 => some [1, 5, 6, 7, 8, 9]
  | 9 => some [1, 5, 6, 7, 8, 9, 42]
  | 10 => some [1, 5, 6, 7, 8, 9]
  | 11 => some [1, 5, 6, 7, 8, 9, 10]
  | 12 => some [1, 5, 6, 7, 8, 9, 10, 46]
  | 13 => some [1, 5, 6, 7, 8, 9, 10]
  | 14 => some [1, 5, 6, 7, 8, 9, 10, 11]
  | 15 => some [1, 5, 6, 7, 8, 9, 10, 11, 13]
  | 16 => some [1, 5, 6, 7, 8, 9, 10, 11, 71]
  | 17 => some [4]
  | 18 => some [1, 5, 6, 7, 8, 9, 10, 11, 15]
  | 19 => some [1, 5, 6, 7, 8, 9, 10, 11, 15]
  | 20 => some [1, 5, 6, 7, 8, 9, 10]
  | 21 => some [1, 5, 6, 7, 8, 16]
  | 22 => some [1, 5, 6, 7, 8, 16, 85]
  | 23 => some [1, 5, 6, 7, 8, 16]
  | 24 => some [1, 5, 6, 7, 8, 16, 93]
  | 25 => some [1, 5, 6, 7, 8, 16]
  | 26 => some [6, 7, 17]
  | 27 => some [6, 7, 17, 108]
  | 28 => some [6, 7, 17]
  | 29 => some [6, 7, 17, 120]
  | 30 => some [4]
  | 31 => some [6, 18]
  | 32 => some [6, 18, 124]
  | 33 => some [6, 18]
  | 34 => some [6, 18, 19]
  | 35 => some [6, 18, 19, 133]
  | 36 => some [6, 18, 19]
  | 37 => some [6, 18, 19]
  | 38 => some [6, 20]
  | 39 => some [6, 20, 21]
  | 40 => some [6, 20, 21, 148]
  | 41 => some [6, 20, 21]
  | 42 => some [6, 20, 21]
  | 43 => some [6, 20, 22]
  | 44 => some [6, 20, 22, 166]
  | 45 => some [6, 20, 22]
  | 46 => some [6, 20, 22, 23]
  | 47 => some [6, 20, 22, 23, 175]
  | 48 => some [6, 20, 22, 23]
  | 49 => some [6, 20, 22, 23, 210]
  | 50 => some [4]
  | 51 => some [4]
  | _ => none
theorem f_quotalaw19_UndoOwn.does {W : World} {H : HProp} {R : Ending → HProp → Prop} (a0 a1 : Value) (h : exec prog W tab 211 f_quotalaw19_UndoOwn.live (codeOf Go.Proofs.Tryz.f4) (bodyQ prog W tab [.tmp 4] R) (argFr 0 [a0, a1]) [] H) : Does prog W f_quotalaw19_UndoOwn ⟨[a0, a1]⟩ H R :=
  Does.of_exec tab_ok f_quotalaw19_UndoOwn.live Go.Proofs.Tryz.func4 rfl rfl rfl (by simp) h
def f_quotalaw19_UndoOwn.plan3 : List Nat := [0, 1, 2, 3, 4, 5]
def f_quotalaw19_UndoOwn.last3 : List Nat := [5]
def f_quotalaw19_UndoOwn.plan15 : List Nat := [0, 2, 3, 4, 5, 1, 6, 7, 8, 9, 10, 11]
def f_quotalaw19_UndoOwn.last15 : List Nat := [11]
def f_quotalaw19_UndoOwn.plan29 : List Nat := [0, 1, 2, 3, 4, 5, 6, 7, 8, 9]
def f_quotalaw19_UndoOwn.last29 : List Nat := []
noncomputable abbrev f_quotalaw19_first.def : Func := Go.Proofs.Tryz.f5
theorem f_quotalaw19_first.fn : prog.funcs[f_quotalaw19_first]? = some f_quotalaw19_first.def := Go.Proofs.Tryz.func5
theorem f_quotalaw19_first.ok : Callable prog f_quotalaw19_first := callable_of Go.Proofs.Tryz.func5 (by kernel_rfl) rfl
def f_quotalaw19_first.live : Nat → Option (List Nat) := fun i => match i with
  | 0 => some []
  | 1 => some [1]
  | 2 => some [1, 2, 3]
  | 3 => some [2, 3, 4, 5]
  | 4 => some [2, 3, 4, 5, 6, 7]
  | 5 => some [0]
  | _ => none
theorem f_quotalaw19_first.does {W : World} {H : HProp} {R : Ending → HProp → Prop} (h : exec prog W tab 81 f_quotalaw19_first.live (codeOf Go.Proofs.Tryz.f5) (bodyQ prog W tab [.tmp 0] R) (argFr 0 []) [] H) : Does prog W f_quotalaw19_first ⟨[]⟩ H R :=
  Does.of_exec tab_ok f_quotalaw19_first.live Go.Proofs.Tryz.func5 rfl rfl rfl (by simp) h
noncomputable abbrev f_quotalaw19_lent.def : Func := Go.Proofs.Tryz.f6
theorem f_quotalaw19_lent.fn : prog.funcs[f_quotalaw19_lent]? = some f_quotalaw19_lent.def := Go.Proofs.Tryz.func6
theorem f_quotalaw19_lent.ok : Callable prog f_quotalaw19_lent := callable_of Go.Proofs.Tryz.func6 (by kernel_rfl) rfl
def f_quotalaw19_lent.live : Nat → Option (List Nat) := fun i => match i with
  | 0 => some [0]
  | 1 => some [0, 3]
  | 2 => some [0, 3]
  | 3 => some [0, 3]
  | 4 => some [2]
  | _ => none
theorem f_quotalaw19_lent.does {W : World} {H : HProp} {R : Ending → HProp → Prop} (a0 : Value) (h : exec prog W tab 15 f_quotalaw19_lent.live (codeOf Go.Proofs.Tryz.f6) (bodyQ prog W tab [.tmp 2] R) (argFr 0 [a0]) [] H) : Does prog W f_quotalaw19_lent ⟨[a0]⟩ H R :=
  Does.of_exec tab_ok f_quotalaw19_lent.live Go.Proofs.Tryz.func6 rfl rfl rfl (by simp) h
noncomputable abbrev f_undo_Left.def : Func := Go.Proofs.Tryz.f7
theorem f_undo_Left.fn : prog.funcs[f_undo_Left]? = some f_undo_Left.def := Go.Proofs.Tryz.func7
theorem f_undo_Left.ok : Callable prog f_undo_Left := callable_of Go.Proofs.Tryz.func7 (by kernel_rfl) rfl
def f_undo_Left.live : Nat → Option (List Nat) := fun i => match i with
  | 0 => some [0, 1]
  | 1 => some [0, 1, 21]
  | 2 => some [4, 5]
  | 3 => some [0, 1, 6]
  | 4 => some [1, 6, 23, 24, 25]
  | 5 => some [1, 6, 23, 24, 25, 26]
  | 6 => some [1, 6, 8, 23, 24, 25]
  | 7 => some [1, 6, 8, 23, 24, 25, 32]
  | 8 => some [1, 6, 8, 9, 10, 23, 24, 25]
  | 9 => some [1, 6, 8, 9, 10, 23, 24, 25, 42]
  | 10 => some [1, 6, 8, 9, 10, 23, 24, 25, 42, 43]
  | 11 => some [1, 6, 8, 11, 12, 23, 24, 25]
  | 12 => some [1, 6, 8, 11, 12, 23, 24, 25, 54]
  | 13 => some [4, 5]
  | 14 => some [1, 6, 23, 24, 25]
  | 15 => some [1, 6, 8, 9, 10, 23, 24, 25, 42, 71]
  | 16 => some [1, 6, 8, 9, 23, 24, 25, 74]
  | 17 => some [4, 5]
  | 18 => some [1, 6, 8, 23, 24, 25, 93]
  | 19 => some [4, 5]
  | 20 => some [1, 6, 23, 24, 25]
  | 21 => some [1, 6, 23, 24, 25, 98]
  | 22 => some [1, 6, 23, 24, 25]
  | 23 => some [1, 6, 23, 24, 25]
  | 24 => some [6, 13]
  | 25 => some [6, 13, 104, 105, 106]
  | 26 => some [6, 13, 104, 105, 106, 107]
  | 27 => some [6, 13, 15, 104, 105, 106]
  | 28 => some [6, 13, 104, 105, 106]
  | 29 => some [6, 13, 104, 105, 106]
  | 30 => some [4, 5]
  | _ => none
theorem f_undo_Left.does {W : World} {H : HProp} {R : Ending → HProp → Prop} (a0 a1 : Value) (h : exec prog W tab 118 f_undo_Left.live (codeOf Go.Proofs.Tryz.f7) (bodyQ prog W tab [.tmp 4, .tmp 5] R) (argFr 0 [a0, a1]) [] H) : Does prog W f_undo_Left ⟨[a0, a1]⟩ H R :=
  Does.of_exec tab_ok f_undo_Left.live Go.Proofs.Tryz.func7 rfl rfl rfl (by simp) h
noncomputable abbrev f_quotaref19_Left.def : Func := Go.Proofs.Tryz.f8
theorem f_quotaref19_Left.fn : prog.funcs[f_quotaref19_Left]? = some f_quotaref19_Left.def := Go.Proofs.Tryz.func8
theorem f_quotaref19_Left.ok : Callable prog f_quotaref19_Left := callable_of Go.Proofs.Tryz.func8 (by kernel_rfl) rfl
def f_quotaref19_Left.live : Nat → Option (List Nat) := fun i => match i with
  | 0 => some [0, 1]
  | 1 => some [0, 1, 17]
  | 2 => some [4, 5]
  | 3 => some [0, 1, 6]
  | 4 => some [0, 1, 6, 7]
  | 5 => some [0, 1, 6, 7, 21]
  | 6 => some [0, 1, 6, 7]
  | 7 => some [0, 1, 6, 7, 8]
  | 8 => some [0, 1, 6, 7, 8, 31]
  | 9 => some [0, 1, 6, 7, 8, 9]
  | 10 => some [0, 1, 6, 7, 8, 9, 38]
  | 11 => some [0, 1, 6, 7, 8, 9, 38, 39]
  | 12 => some [0, 1, 6, 7, 8, 9, 10]
  | 13 => some [0, 1, 6, 7, 8, 9, 10, 54]
  | 14 => some [0, 1, 6, 7]
  | 15 => some [0, 1, 6, 7, 9, 10, 69]
  | 16 => some [4, 5]
  | 17 => some [0, 1, 6, 7, 9, 10]
  | 18 => some [0, 1, 6, 7]
  | 19 => some [0, 1, 6, 7, 8, 9, 38, 83]
  | 20 => some [0, 1, 6, 7, 8, 9, 86]
  | 21 => some [4, 5]
  | 22 => some [0, 1, 6, 7, 9, 114]
  | 23 => some [4, 5]
  | 24 => some [0, 1, 6, 7, 9, 11]
  | 25 => some [0, 1, 6, 7, 9, 11]
  | 26 => some [0, 1, 6, 7]
  | 27 => some [0, 1, 6, 7, 126]
  | 28 => some [0, 1, 6, 7]
  | 29 => some [4, 5]
  | _ => none
theorem f_quotaref19_Left.does {W : World} {H : HProp} {R : Ending → HProp → Prop} (a0 a1 : Value) (h : exec prog W tab 130 f_quotaref19_Left.live (codeOf Go.Proofs.Tryz.f8) (bodyQ prog W tab [.tmp 4, .tmp 5] R) (argFr 0 [a0, a1]) [] H) : Does prog W f_quotaref19_Left ⟨[a0, a1]⟩ H R :=
  Does.of_exec tab_ok f_quotaref19_Left.live Go.Proofs.Tryz.func8 rfl rfl rfl (by simp) h
def f_quotaref19_Left.plan15 : List Nat := [0, 1, 2, 3, 4, 6, 7, 5, 8, 9, 10]
def f_quotaref19_Left.last15 : List Nat := []
def f_quotaref19_Left.plan17 : List Nat := [0, 1, 2, 3, 4, 5, 6, 7, 8, 9]
def f_quotaref19_Left.last17 : List Nat := [8, 9]
def f_quotaref19_Left.plan22 : List Nat := [0, 1, 2, 3, 4, 5, 6, 7, 8, 9, 10, 11, 12, 13, 14, 15, 16, 17, 18, 19, 20, 21, 22, 23, 24, 25, 26, 27]
def f_quotaref19_Left.last22 : List Nat := []
noncomputable abbrev f_quotalaw19_same.def : Func := Go.Proofs.Tryz.f9
theorem f_quotalaw19_same.fn : prog.funcs[f_quotalaw19_same]? = some f_quotalaw19_same.def := Go.Proofs.Tryz.func9
theorem f_quotalaw19_same.ok : Callable prog f_quotalaw19_same := callable_of Go.Proofs.Tryz.func9 (by kernel_rfl) rfl
def f_quotalaw19_same.live : Nat → Option (List Nat) := fun i => match i with
  | 0 => some [0, 1]
  | 1 => some [0, 1, 10]
  | 2 => some [4]
  | 3 => some [0, 1, 5]
  | 4 => some [0, 1, 5, 14]
  | 5 => some [0, 1, 5]
  | 6 => some [0, 1, 5, 26]
  | 7 => some [4]
  | 8 => some [4]
  | _ => none
theorem f_quotalaw19_same.does {W : World} {H : HProp} {R : Ending → HProp → Prop} (a0 a1 : Value) (h : exec prog W tab 27 f_quotalaw19_same.live (codeOf Go.Proofs.Tryz.f9) (bodyQ prog W tab [.tmp 4] R) (argFr 0 [a0, a1]) [] H) : Does prog W f_quotalaw19_same ⟨[a0, a1]⟩ H R :=
  Does.of_exec tab_ok f_quotalaw19_same.live Go.Proofs.Tryz.func9 rfl rfl rfl (by simp) h
def f_quotalaw19_same.plan6 : List Nat := [0, 1, 2, 3, 4, 5, 6, 7, 8, 9]
def f_quotalaw19_same.last6 : List Nat := []
noncomputable abbrev f_quotalaw19_kept.def : Func := Go.Proofs.Tryz.f10
theorem f_quotalaw19_kept.fn : prog.funcs[f_quotalaw19_kept]? = some f_quotalaw19_kept.def := Go.Proofs.Tryz.func10
theorem f_quotalaw19_kept.ok : Callable prog f_quotalaw19_kept := callable_of Go.Proofs.Tryz.func10 (by kernel_rfl) rfl
def f_quotalaw19_kept.live : Nat → Option (List Nat) := fun i => match i with
  | 0 => some [0, 1]
  | 1 => some [0, 1, 5]
  | 2 => some [4]
  | _ => none
theorem f_quotalaw19_kept.does {W : World} {H : HProp} {R : Ending → HProp → Prop} (a0 a1 : Value) (h : exec prog W tab 23 f_quotalaw19_kept.live (codeOf Go.Proofs.Tryz.f10) (bodyQ prog W tab [.tmp 4] R) (argFr 0 [a0, a1]) [] H) : Does prog W f_quotalaw19_kept ⟨[a0, a1]⟩ H R :=
  Does.of_exec tab_ok f_quotalaw19_kept.live Go.Proofs.Tryz.func10 rfl rfl rfl (by simp) h
noncomputable abbrev f_quotalaw19_Life_told.def : Func := Go.Proofs.Tryz.f11
theorem f_quotalaw19_Life_told.fn : prog.funcs[f_quotalaw19_Life_told]? = some f_quotalaw19_Life_told.def := Go.Proofs.Tryz.func11
theorem f_quotalaw19_Life_told.ok : Callable prog f_quotalaw19_Life_told := callable_of Go.Proofs.Tryz.func11 (by kernel_rfl) rfl
def f_quotalaw19_Life_told.live : Nat → Option (List Nat) := fun i => match i with
  | 0 => some [2, 3]
  | 1 => some [4]
  | _ => none
theorem f_quotalaw19_Life_told.does {W : World} {H : HProp} {R : Ending → HProp → Prop} (a0 a1 : Value) (h : exec prog W tab 13 f_quotalaw19_Life_told.live (codeOf Go.Proofs.Tryz.f11) (bodyQ prog W tab [.tmp 4] R) (argFr 0 [a0, a1]) [] H) : Does prog W f_quotalaw19_Life_told ⟨[a0, a1]⟩ H R :=
  Does.of_exec tab_ok f_quotalaw19_Life_told.live Go.Proofs.Tryz.func11 rfl rfl rfl (by simp) h
noncomputable abbrev f_quotalaw19_Life_wide.def : Func := Go.Proofs.Tryz.f12
theorem f_quotalaw19_Life_wide.fn : prog.funcs[f_quotalaw19_Life_wide]? = some f_quotalaw19_Life_wide.def := Go.Proofs.Tryz.func12
theorem f_quotalaw19_Life_wide.ok : Callable prog f_quotalaw19_Life_wide := callable_of Go.Proofs.Tryz.func12 (by kernel_rfl) rfl
def f_quotalaw19_Life_wide.live : Nat → Option (List Nat) := fun i => match i with
  | 0 => some [1, 2]
  | 1 => some [2, 3]
  | 2 => some [2, 3]
  | 3 => some [2]
  | _ => none
theorem f_quotalaw19_Life_wide.does {W : World} {H : HProp} {R : Ending → HProp → Prop} (a0 : Value) (h : exec prog W tab 8 f_quotalaw19_Life_wide.live (codeOf Go.Proofs.Tryz.f12) (bodyQ prog W tab [.cell 2 33] R) (argFr 0 [a0]) [] H) : Does prog W f_quotalaw19_Life_wide ⟨[a0]⟩ H R :=
  Does.of_exec tab_ok f_quotalaw19_Life_wide.live Go.Proofs.Tryz.func12 rfl rfl rfl (by simp) h
noncomputable abbrev f_undo_Run.def : Func := Go.Proofs.Tryz.f13
theorem f_undo_Run.fn : prog.funcs[f_undo_Run]? = some f_undo_Run.def := Go.Proofs.Tryz.func13
theorem f_undo_Run.ok : Callable prog f_undo_Run := callable_of Go.Proofs.Tryz.func13 (by kernel_rfl) rfl
def f_undo_Run.live : Nat → Option (List Nat) := fun i => match i with
  | 0 => some [0, 2, 3, 5, 8, 9]
  | 1 => some [0, 2, 3, 5, 8, 9]
  | 2 => some [0, 2, 3, 5, 8, 9, 27]
  | 3 => some [0, 2, 3, 5, 8, 9]
  | 4 => some [0, 2, 3, 5, 8, 9, 10, 11]
  | 5 => some [0, 2, 3, 5, 8, 9, 10]
  | 6 => some [0, 2, 3, 5, 8, 9, 10, 38]
  | 7 => some [0, 2, 3, 5, 8, 9, 10]
  | 8 => some [0, 2, 3, 5, 8, 9, 10, 11, 12]
  | 9 => some [0, 2, 3, 5, 8, 9, 10, 12]
  | 10 => some [5, 8, 9, 10, 12, 13]
  | 11 => some [5, 8, 9, 12, 13, 55]
  | 12 => some [5, 8, 9, 12, 13]
  | 13 => some [5, 8, 9, 12, 13, 14]
  | 14 => some [5, 8, 9, 12, 13, 14, 59, 60, 61]
  | 15 => some [5, 8, 9, 12, 13, 14, 59, 60, 61, 62]
  | 16 => some [5, 8, 9, 12, 13, 14, 16, 59, 60, 61]
  | 17 => some [5, 8, 9, 12, 13, 14, 16, 59, 60, 61]
  | 18 => some [5, 8, 9, 12, 13, 14, 59, 60, 61]
  | 19 => some [5, 8, 9, 12, 13, 14, 59, 60, 61]
  | 20 => some [8, 9, 12]
  | 21 => some [8, 9]
  | _ => none
theorem f_undo_Run.does {W : World} {H : HProp} {R : Ending → HProp → Prop} (a0 a1 a2 a3 : Value) (h : exec prog W tab 78 f_undo_Run.live (codeOf Go.Proofs.Tryz.f13) (bodyQ prog W tab [.cell 8 3, .cell 9 56] R) (argFr 0 [a0, a1, a2, a3]) [] H) : Does prog W f_undo_Run ⟨[a0, a1, a2, a3]⟩ H R :=
  Does.of_exec tab_ok f_undo_Run.live Go.Proofs.Tryz.func13 rfl rfl rfl (by simp) h
noncomputable abbrev f_quotalaw19_is.def : Func := Go.Proofs.Tryz.f14
theorem f_quotalaw19_is.fn : prog.funcs[f_quotalaw19_is]? = some f_quotalaw19_is.def := Go.Proofs.Tryz.func14
theorem f_quotalaw19_is.ok : Callable prog f_quotalaw19_is := callable_of Go.Proofs.Tryz.func14 (by kernel_rfl) rfl
def f_quotalaw19_is.live : Nat → Option (List Nat) := fun i => match i with
  | 0 => some [0, 1]
  | 1 => some [0, 1, 8]
  | 2 => some [4]
  | 3 => some [1, 11]
  | 4 => some [1, 13, 14]
  | 5 => some [1, 5]
  | 6 => some [1, 5, 30]
  | 7 => some [4]
  | 8 => some [1, 34]
  | 9 => some [1, 36, 37]
  | 10 => some [1, 6]
  | 11 => some [4]
  | 12 => some [4]
  | _ => none
theorem f_quotalaw19_is.does {W : World} {H : HProp} {R : Ending → HProp → Prop} (a0 a1 : Value) (h : exec prog W tab 41 f_quotalaw19_is.live (codeOf Go.Proofs.Tryz.f14) (bodyQ prog W tab [.tmp 4] R) (argFr 0 [a0, a1]) [] H) : Does prog W f_quotalaw19_is ⟨[a0, a1]⟩ H R :=
  Does.of_exec tab_ok f_quotalaw19_is.live Go.Proofs.Tryz.func14 rfl rfl rfl (by simp) h
noncomputable abbrev f_interval_Add.def : Func := Go.Proofs.Tryz.f15
theorem f_interval_Add.fn : prog.funcs[f_interval_Add]? = some f_interval_Add.def := Go.Proofs.Tryz.func15
theorem f_interval_Add.ok : Callable prog f_interval_Add := callable_of Go.Proofs.Tryz.func15 (by kernel_rfl) rfl
def f_interval_Add.live : Nat → Option (List Nat) := fun i => match i with
  | 0 => some [0, 1]
  | 1 => some [4, 5]
  | _ => none
theorem f_interval_Add.does {W : World} {H : HProp} {R : Ending → HProp → Prop} (a0 a1 : Value) (h : exec prog W tab 13 f_interval_Add.live (codeOf Go.Proofs.Tryz.f15) (bodyQ prog W tab [.tmp 4, .tmp 5] R) (argFr 0 [a0, a1]) [] H) : Does prog W f_interval_Add ⟨[a0, a1]⟩ H R :=
  Does.of_exec tab_ok f_interval_Add.live Go.Proofs.Tryz.func15 rfl rfl rfl (by simp) h
noncomputable abbrev f_slices_Sorted_int.def : Func := Go.Proofs.Tryz.f16
theorem f_slices_Sorted_int.fn : prog.funcs[f_slices_Sorted_int]? = some f_slices_Sorted_int.def := Go.Proofs.Tryz.func16
theorem f_slices_Sorted_int.ok : Callable prog f_slices_Sorted_int := callable_of Go.Proofs.Tryz.func16 (by kernel_rfl) rfl
def f_slices_Sorted_int.live : Nat → Option (List Nat) := fun i => match i with
  | 0 => some [0]
  | 1 => some [3]
  | 2 => some [3]
  | 3 => some [2]
  | _ => none
theorem f_slices_Sorted_int.does {W : World} {H : HProp} {R : Ending → HProp → Prop} (a0 : Value) (h : exec prog W tab 9 f_slices_Sorted_int.live (codeOf Go.Proofs.Tryz.f16) (bodyQ prog W tab [.tmp 2] R) (argFr 0 [a0]) [] H) : Does prog W f_slices_Sorted_int ⟨[a0]⟩ H R :=
  Does.of_exec tab_ok f_slices_Sorted_int.live Go.Proofs.Tryz.func16 rfl rfl rfl (by simp) h
noncomputable abbrev f_maps_Keys_M_int_api_Record_int_api_Record.def : Func := Go.Proofs.Tryz.f17
theorem f_maps_Keys_M_int_api_Record_int_api_Record.fn : prog.funcs[f_maps_Keys_M_int_api_Record_int_api_Record]? = some f_maps_Keys_M_int_api_Record_int_api_Record.def := Go.Proofs.Tryz.func17
theorem f_maps_Keys_M_int_api_Record_int_api_Record.ok : Callable prog f_maps_Keys_M_int_api_Record_int_api_Record := callable_of Go.Proofs.Tryz.func17 (by kernel_rfl) rfl
def f_maps_Keys_M_int_api_Record_int_api_Record.live : Nat → Option (List Nat) := fun i => match i with
  | 0 => some [1]
  | 1 => some [2]
  | _ => none
theorem f_maps_Keys_M_int_api_Record_int_api_Record.does {W : World} {H : HProp} {R : Ending → HProp → Prop} (a0 : Value) (h : exec prog W tab 4 f_maps_Keys_M_int_api_Record_int_api_Record.live (codeOf Go.Proofs.Tryz.f17) (bodyQ prog W tab [.tmp 2] R) (argFr 0 [a0]) [] H) : Does prog W f_maps_Keys_M_int_api_Record_int_api_Record ⟨[a0]⟩ H R :=
  Does.of_exec tab_ok f_maps_Keys_M_int_api_Record_int_api_Record.live Go.Proofs.Tryz.func17 rfl rfl rfl (by simp) h
noncomputable abbrev f_quotaref19_at.def : Func := Go.Proofs.Tryz.f18
theorem f_quotaref19_at.fn : prog.funcs[f_quotaref19_at]? = some f_quotaref19_at.def := Go.Proofs.Tryz.func18
theorem f_quotaref19_at.ok : Callable prog f_quotaref19_at := callable_of Go.Proofs.Tryz.func18 (by kernel_rfl) rfl
def f_quotaref19_at.live : Nat → Option (List Nat) := fun i => match i with
  | 0 => some [0, 1]
  | 1 => some [0, 1, 5]
  | 2 => some [0, 1, 5, 9]
  | 3 => some [0, 1, 5]
  | 4 => some [0, 1, 5, 19]
  | 5 => some [4]
  | 6 => some [4]
  | _ => none
theorem f_quotaref19_at.does {W : World} {H : HProp} {R : Ending → HProp → Prop} (a0 a1 : Value) (h : exec prog W tab 21 f_quotaref19_at.live (codeOf Go.Proofs.Tryz.f18) (bodyQ prog W tab [.tmp 4] R) (argFr 0 [a0, a1]) [] H) : Does prog W f_quotaref19_at ⟨[a0, a1]⟩ H R :=
  Does.of_exec tab_ok f_quotaref19_at.live Go.Proofs.Tryz.func18 rfl rfl rfl (by simp) h
noncomputable abbrev f_quotaref10_Of.def : Func := Go.Proofs.Tryz.f19
theorem f_quotaref10_Of.fn : prog.funcs[f_quotaref10_Of]? = some f_quotaref10_Of.def := Go.Proofs.Tryz.func19
theorem f_quotaref10_Of.ok : Callable prog f_quotaref10_Of := callable_of Go.Proofs.Tryz.func19 (by kernel_rfl) rfl
def f_quotaref10_Of.live : Nat → Option (List Nat) := fun i => match i with
  | 0 => some [0, 2]
  | 1 => some [2]
  | _ => none
theorem f_quotaref10_Of.does {W : World} {H : HProp} {R : Ending → HProp → Prop} (a0 : Value) (h : exec prog W tab 8 f_quotaref10_Of.live (codeOf Go.Proofs.Tryz.f19) (bodyQ prog W tab [.cell 2 70] R) (argFr 0 [a0]) [] H) : Does prog W f_quotaref10_Of ⟨[a0]⟩ H R :=
  Does.of_exec tab_ok f_quotaref10_Of.live Go.Proofs.Tryz.func19 rfl rfl rfl (by simp) h
noncomputable abbrev f_quotaref10_Wide_Plus.def : Func := Go.Proofs.Tryz.f20
theorem f_quotaref10_Wide_Plus.fn : prog.funcs[f_quotaref10_Wide_Plus]? = some f_quotaref10_Wide_Plus.def := Go.Proofs.Tryz.func20
theorem f_quotaref10_Wide_Plus.ok : Callable prog f_quotaref10_Wide_Plus := callable_of Go.Proofs.Tryz.func20 (by kernel_rfl) rfl
def f_quotaref10_Wide_Plus.live : Nat → Option (List Nat) := fun i => match i with
  | 0 => some [1, 2, 4]
  | 1 => some [1, 2, 4, 5]
  | 2 => some [4]
  | _ => none
theorem f_quotaref10_Wide_Plus.does {W : World} {H : HProp} {R : Ending → HProp → Prop} (a0 a1 : Value) (h : exec prog W tab 22 f_quotaref10_Wide_Plus.live (codeOf Go.Proofs.Tryz.f20) (bodyQ prog W tab [.cell 4 70] R) (argFr 0 [a0, a1]) [] H) : Does prog W f_quotaref10_Wide_Plus ⟨[a0, a1]⟩ H R :=
  Does.of_exec tab_ok f_quotaref10_Wide_Plus.live Go.Proofs.Tryz.func20 rfl rfl rfl (by simp) h
noncomputable abbrev f_quotaref10_Wide_Fits.def : Func := Go.Proofs.Tryz.f21
theorem f_quotaref10_Wide_Fits.fn : prog.funcs[f_quotaref10_Wide_Fits]? = some f_quotaref10_Wide_Fits.def := Go.Proofs.Tryz.func21
theorem f_quotaref10_Wide_Fits.ok : Callable prog f_quotaref10_Wide_Fits := callable_of Go.Proofs.Tryz.func21 (by kernel_rfl) rfl
def f_quotaref10_Wide_Fits.live : Nat → Option (List Nat) := fun i => match i with
  | 0 => some [1]
  | 1 => some [2]
  | _ => none
theorem f_quotaref10_Wide_Fits.does {W : World} {H : HProp} {R : Ending → HProp → Prop} (a0 : Value) (h : exec prog W tab 11 f_quotaref10_Wide_Fits.live (codeOf Go.Proofs.Tryz.f21) (bodyQ prog W tab [.tmp 2] R) (argFr 0 [a0]) [] H) : Does prog W f_quotaref10_Wide_Fits ⟨[a0]⟩ H R :=
  Does.of_exec tab_ok f_quotaref10_Wide_Fits.live Go.Proofs.Tryz.func21 rfl rfl rfl (by simp) h
noncomputable abbrev f_quotaref19_rising.def : Func := Go.Proofs.Tryz.f22
theorem f_quotaref19_rising.fn : prog.funcs[f_quotaref19_rising]? = some f_quotaref19_rising.def := Go.Proofs.Tryz.func22
theorem f_quotaref19_rising.ok : Callable prog f_quotaref19_rising := callable_of Go.Proofs.Tryz.func22 (by kernel_rfl) rfl
def f_quotaref19_rising.live : Nat → Option (List Nat) := fun i => match i with
  | 0 => some [0]
  | 1 => some [0, 3]
  | 2 => some [0, 3, 9]
  | 3 => some [0, 3, 4]
  | 4 => some [0, 3, 4, 5]
  | 5 => some [0, 3, 4, 5, 13]
  | 6 => some [0, 3, 4, 5]
  | 7 => some [0, 3, 4, 5, 28]
  | 8 => some [0, 3, 4, 5]
  | 9 => some [0, 3, 4]
  | 10 => some [0, 3, 4, 6]
  | 11 => some [0, 3, 4, 6]
  | 12 => some [0, 3]
  | 13 => some [2]
  | _ => none
theorem f_quotaref19_rising.does {W : World} {H : HProp} {R : Ending → HProp → Prop} (a0 : Value) (h : exec prog W tab 49 f_quotaref19_rising.live (codeOf Go.Proofs.Tryz.f22) (bodyQ prog W tab [.tmp 2] R) (argFr 0 [a0]) [] H) : Does prog W f_quotaref19_rising ⟨[a0]⟩ H R :=
  Does.of_exec tab_ok f_quotaref19_rising.live Go.Proofs.Tryz.func22 rfl rfl rfl (by simp) h
def f_quotaref19_rising.plan7 : List Nat := [0, 1, 2, 3, 4, 5, 6, 7, 8, 9, 10, 11, 12]
def f_quotaref19_rising.last7 : List Nat := []
noncomputable abbrev f_quotalaw19_plain.def : Func := Go.Proofs.Tryz.f23
theorem f_quotalaw19_plain.fn : prog.funcs[f_quotalaw19_plain]? = some f_quotalaw19_plain.def := Go.Proofs.Tryz.func23
theorem f_quotalaw19_plain.ok : Callable prog f_quotalaw19_plain := callable_of Go.Proofs.Tryz.func23 (by kernel_rfl) rfl
def f_quotalaw19_plain.live : Nat → Option (List Nat) := fun i => match i with
  | 0 => some [2, 3]
  | 1 => some [4]
  | _ => none
theorem f_quotalaw19_plain.does {W : World} {H : HProp} {R : Ending → HProp → Prop} (a0 a1 : Value) (h : exec prog W tab 90 f_quotalaw19_plain.live (codeOf Go.Proofs.Tryz.f23) (bodyQ prog W tab [.tmp 4] R) (argFr 0 [a0, a1]) [] H) : Does prog W f_quotalaw19_plain ⟨[a0, a1]⟩ H R :=
  Does.of_exec tab_ok f_quotalaw19_plain.live Go.Proofs.Tryz.func23 rfl rfl rfl (by simp) h
noncomputable abbrev f_quotaref18_Told.def : Func := Go.Proofs.Tryz.f24
theorem f_quotaref18_Told.fn : prog.funcs[f_quotaref18_Told]? = some f_quotaref18_Told.def := Go.Proofs.Tryz.func24
theorem f_quotaref18_Told.ok : Callable prog f_quotaref18_Told := callable_of Go.Proofs.Tryz.func24 (by kernel_rfl) rfl
def f_quotaref18_Told.live : Nat → Option (List Nat) := fun i => match i with
  | 0 => some [0, 1, 2]
  | 1 => some [0, 2, 7]
  | 2 => some [0, 2, 7, 8]
  | 3 => some [0, 2, 7, 8, 23]
  | 4 => some [0, 2, 7, 8]
  | 5 => some [0, 2, 7, 8]
  | 6 => some [0, 2, 7, 8, 38]
  | 7 => some [7]
  | 8 => some [6]
  | 9 => some [6]
  | _ => none
theorem f_quotaref18_Told.does {W : World} {H : HProp} {R : Ending → HProp → Prop} (a0 a1 a2 : Value) (h : exec prog W tab 50 f_quotaref18_Told.live (codeOf Go.Proofs.Tryz.f24) (bodyQ prog W tab [.tmp 6] R) (argFr 0 [a0, a1, a2]) [] H) : Does prog W f_quotaref18_Told ⟨[a0, a1, a2]⟩ H R :=
  Does.of_exec tab_ok f_quotaref18_Told.live Go.Proofs.Tryz.func24 rfl rfl rfl (by simp) h
noncomputable abbrev f_quotalaw19_Life_shape.def : Func := Go.Proofs.Tryz.f25
theorem f_quotalaw19_Life_shape.fn : prog.funcs[f_quotalaw19_Life_shape]? = some f_quotalaw19_Life_shape.def := Go.Proofs.Tryz.func25
theorem f_quotalaw19_Life_shape.ok : Callable prog f_quotalaw19_Life_shape := callable_of Go.Proofs.Tryz.func25 (by kernel_rfl) rfl
def f_quotalaw19_Life_shape.live : Nat → Option (List Nat) := fun i => match i with
  | 0 => some [1, 2]
  | 1 => some [2]
  | _ => none
theorem f_quotalaw19_Life_shape.does {W : World} {H : HProp} {R : Ending → HProp → Prop} (a0 : Value) (h : exec prog W tab 19 f_quotalaw19_Life_shape.live (codeOf Go.Proofs.Tryz.f25) (bodyQ prog W tab [.cell 2 33] R) (argFr 0 [a0]) [] H) : Does prog W f_quotalaw19_Life_shape ⟨[a0]⟩ H R :=
  Does.of_exec tab_ok f_quotalaw19_Life_shape.live Go.Proofs.Tryz.func25 rfl rfl rfl (by simp) h
def f_quotalaw19_Life_shape.plan1 : List Nat := [0, 1, 2, 5, 6, 7, 10, 11, 12, 3, 4, 8, 9, 13, 14, 15, 16]
def f_quotalaw19_Life_shape.last1 : List Nat := [16]
noncomputable abbrev f_undo_Run_1.def : Func := Go.Proofs.Tryz.f26
theorem f_undo_Run_1.fn : prog.funcs[f_undo_Run_1]? = some f_undo_Run_1.def := Go.Proofs.Tryz.func26
theorem f_undo_Run_1.ok : Callable prog f_undo_Run_1 := callable_of Go.Proofs.Tryz.func26 (by kernel_rfl) rfl
def f_undo_Run_1.live : Nat → Option (List Nat) := fun i => match i with
  | 0 => some [0, 1, 5]
  | 1 => some [4]
  | 2 => some []
  | 3 => some [0, 1, 5, 7]
  | 4 => some []
  | 5 => some [0, 1, 5, 9, 10]
  | 6 => some [0, 1, 3]
  | 7 => some []
  | _ => none
theorem f_undo_Run_1.does {W : World} {H : HProp} {R : Ending → HProp → Prop} (a0 a1 : Value) (h : exec prog W tab 17 f_undo_Run_1.live (codeOf Go.Proofs.Tryz.f26) (bodyQ prog W tab [] R) (argFr 0 [a0, a1]) [] H) : Does prog W f_undo_Run_1 ⟨[a0, a1]⟩ H R :=
  Does.of_exec tab_ok f_undo_Run_1.live Go.Proofs.Tryz.func26 rfl rfl rfl (by simp) h
def f_undo_Run_1.tree7 : PT := (.op 0 (.op 1 (.op 2 (.op 3 (.two 4 (.op 5 (.op 6 (.op 7 .nil))) 6 (.op 4 (.op 5 (.op 7 .nil))))))))
noncomputable abbrev f_undo_must.def : Func := Go.Proofs.Tryz.f27
theorem f_undo_must.fn : prog.funcs[f_undo_must]? = some f_undo_must.def := Go.Proofs.Tryz.func27
theorem f_undo_must.ok : Callable prog f_undo_must := callable_of Go.Proofs.Tryz.func27 (by kernel_rfl) rfl
def f_undo_must.live : Nat → Option (List Nat) := fun i => match i with
  | 0 => some [0, 3]
  | 1 => some []
  | _ => none
theorem f_undo_must.does {W : World} {H : HProp} {R : Ending → HProp → Prop} (a0 : Value) (h : exec prog W tab 7 f_undo_must.live (codeOf Go.Proofs.Tryz.f27) (bodyQ prog W tab [] R) (argFr 0 [a0]) [] H) : Does prog W f_undo_must ⟨[a0]⟩ H R :=
  Does.of_exec tab_ok f_undo_must.live Go.Proofs.Tryz.func27 rfl rfl rfl (by simp) h
noncomputable abbrev f_undo_records.def : Func := Go.Proofs.Tryz.f29
theorem f_undo_records.fn : prog.funcs[f_undo_records]? = some f_undo_records.def := Go.Proofs.Tryz.func29
theorem f_undo_records.ok : Callable prog f_undo_records := callable_of Go.Proofs.Tryz.func29 (by kernel_rfl) rfl
def f_undo_records.live : Nat → Option (List Nat) := fun i => match i with
  | 0 => some [0]
  | 1 => some [0, 3]
  | 2 => some [0, 3, 4]
  | 3 => some [0, 3, 4, 10]
  | 4 => some [0, 3, 4]
  | 5 => some [0, 3, 4, 5, 6]
  | 6 => some [0, 3, 4, 5]
  | 7 => some [0, 3, 4]
  | 8 => some [2]
  | _ => none
theorem f_undo_records.does {W : World} {H : HProp} {R : Ending → HProp → Prop} (a0 : Value) (h : exec prog W tab 26 f_undo_records.live (codeOf Go.Proofs.Tryz.f29) (bodyQ prog W tab [.tmp 2] R) (argFr 0 [a0]) [] H) : Does prog W f_undo_records ⟨[a0]⟩ H R :=
  Does.of_exec tab_ok f_undo_records.live Go.Proofs.Tryz.func29 rfl rfl rfl (by simp) h
noncomputable abbrev f_undo_run_append.def : Func := Go.Proofs.Tryz.f30
theorem f_undo_run_append.fn : prog.funcs[f_undo_run_append]? = some f_undo_run_append.def := Go.Proofs.Tryz.func30
theorem f_undo_run_append.ok : Callable prog f_undo_run_append := callable_of Go.Proofs.Tryz.func30 (by kernel_rfl) rfl
def f_undo_run_append.live : Nat → Option (List Nat) := fun i => match i with
  | 0 => some [2, 3, 4]
  | 1 => some [2, 3, 4, 5, 6]
  | 2 => some [2, 3, 4, 5]
  | 3 => some [2, 3, 4]
  | 4 => some [2, 3, 4, 6]
  | 5 => some [2, 3, 4]
  | 6 => some [3, 4]
  | 7 => some [4]
  | _ => none
theorem f_undo_run_append.does {W : World} {H : HProp} {R : Ending → HProp → Prop} (a0 a1 : Value) (h : exec prog W tab 39 f_undo_run_append.live (codeOf Go.Proofs.Tryz.f30) (bodyQ prog W tab [.cell 4 53] R) (argFr 0 [a0, a1]) [] H) : Does prog W f_undo_run_append ⟨[a0, a1]⟩ H R :=
  Does.of_exec tab_ok f_undo_run_append.live Go.Proofs.Tryz.func30 rfl rfl rfl (by simp) h
def f_undo_run_append.plan3 : List Nat := [0, 1, 2, 3, 4, 5, 6, 7]
def f_undo_run_append.last3 : List Nat := [6, 7]
noncomputable abbrev f_undo_Run_2.def : Func := Go.Proofs.Tryz.f31
theorem f_undo_Run_2.fn : prog.funcs[f_undo_Run_2]? = some f_undo_Run_2.def := Go.Proofs.Tryz.func31
theorem f_undo_Run_2.ok : Callable prog f_undo_Run_2 := callable_of Go.Proofs.Tryz.func31 (by kernel_rfl) rfl
def f_undo_Run_2.live : Nat → Option (List Nat) := fun i => match i with
  | 0 => some [1, 2]
  | 1 => some [1, 7, 8, 9]
  | 2 => some [1, 7, 8, 9, 10]
  | 3 => some [1, 5, 7, 8, 9]
  | 4 => some [1, 7, 8, 9]
  | 5 => some [1, 7, 8, 9]
  | _ => none
theorem f_undo_Run_2.does {W : World} {H : HProp} {R : Ending → HProp → Prop} (a0 a1 : Value) (h : exec prog W tab 17 f_undo_Run_2.live (codeOf Go.Proofs.Tryz.f31) (bodyQ prog W tab [] R) (argFr 0 [a0, a1]) [] H) : Does prog W f_undo_Run_2 ⟨[a0, a1]⟩ H R :=
  Does.of_exec tab_ok f_undo_Run_2.live Go.Proofs.Tryz.func31 rfl rfl rfl (by simp) h
noncomputable abbrev f_undo_Run_3.def : Func := Go.Proofs.Tryz.f33
theorem f_undo_Run_3.fn : prog.funcs[f_undo_Run_3]? = some f_undo_Run_3.def := Go.Proofs.Tryz.func33
theorem f_undo_Run_3.ok : Callable prog f_undo_Run_3 := callable_of Go.Proofs.Tryz.func33 (by kernel_rfl) rfl
def f_undo_Run_3.live : Nat → Option (List Nat) := fun i => match i with
  | 0 => some [1, 2, 4, 5]
  | 1 => some [1, 2, 4]
  | 2 => some [1, 6, 7, 8]
  | 3 => some [1, 6, 7]
  | 4 => some [1, 6, 27]
  | 5 => some []
  | _ => none
theorem f_undo_Run_3.does {W : World} {H : HProp} {R : Ending → HProp → Prop} (a0 a1 a2 : Value) (h : exec prog W tab 33 f_undo_Run_3.live (codeOf Go.Proofs.Tryz.f33) (bodyQ prog W tab [] R) (argFr 0 [a0, a1, a2]) [] H) : Does prog W f_undo_Run_3 ⟨[a0, a1, a2]⟩ H R :=
  Does.of_exec tab_ok f_undo_Run_3.live Go.Proofs.Tryz.func33 rfl rfl rfl (by simp) h
noncomputable abbrev f_interval_of.def : Func := Go.Proofs.Tryz.f38
theorem f_interval_of.fn : prog.funcs[f_interval_of]? = some f_interval_of.def := Go.Proofs.Tryz.func38
theorem f_interval_of.ok : Callable prog f_interval_of := callable_of Go.Proofs.Tryz.func38 (by kernel_rfl) rfl
def f_interval_of.live : Nat → Option (List Nat) := fun i => match i with
  | 0 => some [0, 2]
  | 1 => some [2]
  | _ => none
theorem f_interval_of.does {W : World} {H : HProp} {R : Ending → HProp → Prop} (a0 : Value) (h : exec prog W tab 8 f_interval_of.live (codeOf Go.Proofs.Tryz.f38) (bodyQ prog W tab [.cell 2 113] R) (argFr 0 [a0]) [] H) : Does prog W f_interval_of ⟨[a0]⟩ H R :=
  Does.of_exec tab_ok f_interval_of.live Go.Proofs.Tryz.func38 rfl rfl rfl (by simp) h
noncomputable abbrev f_interval_wide_plus.def : Func := Go.Proofs.Tryz.f39
theorem f_interval_wide_plus.fn : prog.funcs[f_interval_wide_plus]? = some f_interval_wide_plus.def := Go.Proofs.Tryz.func39
theorem f_interval_wide_plus.ok : Callable prog f_interval_wide_plus := callable_of Go.Proofs.Tryz.func39 (by kernel_rfl) rfl
def f_interval_wide_plus.live : Nat → Option (List Nat) := fun i => match i with
  | 0 => some [1, 2, 4]
  | 1 => some [1, 2, 4, 5, 6]
  | 2 => some [4]
  | _ => none
theorem f_interval_wide_plus.does {W : World} {H : HProp} {R : Ending → HProp → Prop} (a0 a1 : Value) (h : exec prog W tab 25 f_interval_wide_plus.live (codeOf Go.Proofs.Tryz.f39) (bodyQ prog W tab [.cell 4 113] R) (argFr 0 [a0, a1]) [] H) : Does prog W f_interval_wide_plus ⟨[a0, a1]⟩ H R :=
  Does.of_exec tab_ok f_interval_wide_plus.live Go.Proofs.Tryz.func39 rfl rfl rfl (by simp) h
noncomputable abbrev f_interval_wide_number.def : Func := Go.Proofs.Tryz.f40
theorem f_interval_wide_number.fn : prog.funcs[f_interval_wide_number]? = some f_interval_wide_number.def := Go.Proofs.Tryz.func40
theorem f_interval_wide_number.ok : Callable prog f_interval_wide_number := callable_of Go.Proofs.Tryz.func40 (by kernel_rfl) rfl
def f_interval_wide_number.live : Nat → Option (List Nat) := fun i => match i with
  | 0 => some [1]
  | 1 => some [1, 10]
  | 2 => some [2, 3]
  | 3 => some [2, 3]
  | _ => none
theorem f_interval_wide_number.does {W : World} {H : HProp} {R : Ending → HProp → Prop} (a0 : Value) (h : exec prog W tab 14 f_interval_wide_number.live (codeOf Go.Proofs.Tryz.f40) (bodyQ prog W tab [.tmp 2, .tmp 3] R) (argFr 0 [a0]) [] H) : Does prog W f_interval_wide_number ⟨[a0]⟩ H R :=
  Does.of_exec tab_ok f_interval_wide_number.live Go.Proofs.Tryz.func40 rfl rfl rfl (by simp) h
noncomputable abbrev f_slices_Collect_int.def : Func := Go.Proofs.Tryz.f41
theorem f_slices_Collect_int.fn : prog.funcs[f_slices_Collect_int]? = some f_slices_Collect_int.def := Go.Proofs.Tryz.func41
theorem f_slices_Collect_int.ok : Callable prog f_slices_Collect_int := callable_of Go.Proofs.Tryz.func41 (by kernel_rfl) rfl
def f_slices_Collect_int.live : Nat → Option (List Nat) := fun i => match i with
  | 0 => some [0]
  | 1 => some [2]
  | _ => none
theorem f_slices_Collect_int.does {W : World} {H : HProp} {R : Ending → HProp → Prop} (a0 : Value) (h : exec prog W tab 5 f_slices_Collect_int.live (codeOf Go.Proofs.Tryz.f41) (bodyQ prog W tab [.tmp 2] R) (argFr 0 [a0]) [] H) : Does prog W f_slices_Collect_int ⟨[a0]⟩ H R :=
  Does.of_exec tab_ok f_slices_Collect_int.live Go.Proofs.Tryz.func41 rfl rfl rfl (by simp) h
noncomputable abbrev f_slices_Sort_S_int_int.def : Func := Go.Proofs.Tryz.f42
theorem f_slices_Sort_S_int_int.fn : prog.funcs[f_slices_Sort_S_int_int]? = some f_slices_Sort_S_int_int.def := Go.Proofs.Tryz.func42
theorem f_slices_Sort_S_int_int.ok : Callable prog f_slices_Sort_S_int_int := callable_of Go.Proofs.Tryz.func42 (by kernel_rfl) rfl
def f_slices_Sort_S_int_int.live : Nat → Option (List Nat) := fun i => match i with
  | 0 => some [0, 2]
  | 1 => some []
  | _ => none
theorem f_slices_Sort_S_int_int.does {W : World} {H : HProp} {R : Ending → HProp → Prop} (a0 : Value) (h : exec prog W tab 11 f_slices_Sort_S_int_int.live (codeOf Go.Proofs.Tryz.f42) (bodyQ prog W tab [] R) (argFr 0 [a0]) [] H) : Does prog W f_slices_Sort_S_int_int ⟨[a0]⟩ H R :=
  Does.of_exec tab_ok f_slices_Sort_S_int_int.live Go.Proofs.Tryz.func42 rfl rfl rfl (by simp) h
noncomputable abbrev f_maps_Keys_M_int_api_Record_int_api_Record_1.def : Func := Go.Proofs.Tryz.f43
theorem f_maps_Keys_M_int_api_Record_int_api_Record_1.fn : prog.funcs[f_maps_Keys_M_int_api_Record_int_api_Record_1]? = some f_maps_Keys_M_int_api_Record_int_api_Record_1.def := Go.Proofs.Tryz.func43
theorem f_maps_Keys_M_int_api_Record_int_api_Record_1.ok : Callable prog f_maps_Keys_M_int_api_Record_int_api_Record_1 := callable_of Go.Proofs.Tryz.func43 (by kernel_rfl) rfl
def f_maps_Keys_M_int_api_Record_int_api_Record_1.live : Nat → Option (List Nat) := fun i => match i with
  | 0 => some [0, 5]
  | 1 => some [0, 5, 7]
  | 2 => some [0, 3, 5]
  | 3 => some [0, 5, 13]
  | _ => none
theorem f_maps_Keys_M_int_api_Record_int_api_Record_1.does {W : World} {H : HProp} {R : Ending → HProp → Prop} (a0 a1 : Value) (h : exec prog W tab 14 f_maps_Keys_M_int_api_Record_int_api_Record_1.live (codeOf Go.Proofs.Tryz.f43) (bodyQ prog W tab [] R) (argFr 0 [a0, a1]) [] H) : Does prog W f_maps_Keys_M_int_api_Record_int_api_Record_1 ⟨[a0, a1]⟩ H R :=
  Does.of_exec tab_ok f_maps_Keys_M_int_api_Record_int_api_Record_1.live Go.Proofs.Tryz.func43 rfl rfl rfl (by simp) h
noncomputable abbrev f_quotaref18_Story_does.def : Func := Go.Proofs.Tryz.f44
theorem f_quotaref18_Story_does.fn : prog.funcs[f_quotaref18_Story_does]? = some f_quotaref18_Story_does.def := Go.Proofs.Tryz.func44
theorem f_quotaref18_Story_does.ok : Callable prog f_quotaref18_Story_does := callable_of Go.Proofs.Tryz.func44 (by kernel_rfl) rfl
def f_quotaref18_Story_does.live : Nat → Option (List Nat) := fun i => match i with
  | 0 => some [0, 3]
  | 1 => some [0, 3, 5]
  | 2 => some [0, 3, 5, 17]
  | 3 => some []
  | 4 => some [4]
  | 5 => some [0, 3, 5, 22]
  | 6 => some [0, 28]
  | 7 => some [0, 6]
  | 8 => some [0]
  | 9 => some []
  | 10 => some [4]
  | 11 => some [0, 3, 5, 65]
  | 12 => some [4]
  | 13 => some [0, 3, 5, 7]
  | 14 => some [0, 3, 5, 7, 8]
  | 15 => some [0, 3, 5, 7, 8, 81]
  | 16 => some [0, 7]
  | 17 => some []
  | 18 => some [0, 3, 5, 7, 8, 94]
  | 19 => some [0, 7, 8]
  | 20 => some [0, 8]
  | 21 => some [0, 8, 9]
  | 22 => some [0, 8, 9, 124]
  | 23 => some [0, 8, 9]
  | 24 => some [0, 8, 9]
  | 25 => some [0, 3, 7, 8, 146]
  | 26 => some [0, 7, 8]
  | 27 => some [0, 7, 8, 10]
  | 28 => some [0, 7, 8, 10, 169]
  | 29 => some [0, 7, 8, 10]
  | 30 => some [0, 7, 8, 10, 176]
  | 31 => some [0, 7, 8, 10]
  | 32 => some [0, 7]
  | 33 => some []
  | 34 => some [0, 3, 7, 8, 202]
  | 35 => some [0, 3, 7, 8, 11]
  | 36 => some [0, 7, 8, 11, 12]
  | 37 => some [0, 7, 8, 11, 12]
  | 38 => some [0, 7, 11]
  | 39 => some []
  | 40 => some [4]
  | _ => none
theorem f_quotaref18_Story_does.does {W : World} {H : HProp} {R : Ending → HProp → Prop} (a0 a1 : Value) (h : exec prog W tab 252 f_quotaref18_Story_does.live (codeOf Go.Proofs.Tryz.f44) (bodyQ prog W tab [.tmp 4] R) (argFr 0 [a0, a1]) [] H) : Does prog W f_quotaref18_Story_does ⟨[a0, a1]⟩ H R :=
  Does.of_exec tab_ok f_quotaref18_Story_does.live Go.Proofs.Tryz.func44 rfl rfl rfl (by simp) h
def f_quotaref18_Story_does.tree8 : PT := (.op 0 (.op 1 (.op 2 (.op 3 (.op 4 (.op 5 (.op 6 (.op 7 (.op 8 (.op 9 (.two 10 (.op 11 (.op 12 (.op 13 (.op 14 (.op 15 (.op 16 (.op 17 .nil))))))) 11 (.op 10 (.op 12 (.op 13 (.op 14 (.op 15 (.op 16 (.op 17 .nil))))))))))))))))))
def f_quotaref18_Story_does.plan13 : List Nat := [0, 1, 2, 3, 4, 5, 6, 7, 8]
def f_quotaref18_Story_does.last13 : List Nat := [8]
def f_quotaref18_Story_does.plan19 : List Nat := [0, 1, 2, 3, 4, 5, 6, 7, 8, 9, 10, 11, 12, 13, 14]
def f_quotaref18_Story_does.last19 : List Nat := [12, 13, 14]
def f_quotaref18_Story_does.plan24 : List Nat := [0, 1, 2, 3, 4, 5, 6, 7, 8, 9, 10, 11, 12, 13, 14, 15, 16, 17, 18, 19]
def f_quotaref18_Story_does.last24 : List Nat := [18, 19]
def f_quotaref18_Story_does.plan26 : List Nat := [0, 1, 2, 3, 4, 5, 6, 7, 8, 9, 10, 11, 12, 13, 14]
def f_quotaref18_Story_does.last26 : List Nat := [12, 13, 14]
def f_quotaref18_Story_does.plan32 : List Nat := [0, 1, 2, 3, 4, 5, 6, 7, 8, 9, 10, 11, 12]
def f_quotaref18_Story_does.last32 : List Nat := []
def f_quotaref18_Story_does.plan35 : List Nat := [0, 1, 2, 3, 4, 5, 6, 7, 8]
def f_quotaref18_Story_does.last35 : List Nat := [8]
def f_quotaref18_Story_does.plan38 : List Nat := [0, 1, 2, 3, 4, 5, 6, 7, 8, 9, 10, 11, 12, 13, 14, 15, 16, 17]
def f_quotaref18_Story_does.last38 : List Nat := [16, 17]
noncomputable abbrev f_quotalaw19_brought.def : Func := Go.Proofs.Tryz.f45
theorem f_quotalaw19_brought.fn : prog.funcs[f_quotalaw19_brought]? = some f_quotalaw19_brought.def := Go.Proofs.Tryz.func45
theorem f_quotalaw19_brought.ok : Callable prog f_quotalaw19_brought := callable_of Go.Proofs.Tryz.func45 (by kernel_rfl) rfl
def f_quotalaw19_brought.live : Nat → Option (List Nat) := fun i => match i with
  | 0 => some [0, 1]
  | 1 => some [0, 1]
  | 2 => some [0, 1, 9]
  | 3 => some [4]
  | 4 => some [4]
  | _ => none
theorem f_quotalaw19_brought.does {W : World} {H : HProp} {R : Ending → HProp → Prop} (a0 a1 : Value) (h : exec prog W tab 14 f_quotalaw19_brought.live (codeOf Go.Proofs.Tryz.f45) (bodyQ prog W tab [.tmp 4] R) (argFr 0 [a0, a1]) [] H) : Does prog W f_quotalaw19_brought ⟨[a0, a1]⟩ H R :=
  Does.of_exec tab_ok f_quotalaw19_brought.live Go.Proofs.Tryz.func45 rfl rfl rfl (by simp) h
noncomputable abbrev f_interval_Sub.def : Func := Go.Proofs.Tryz.f55
theorem f_interval_Sub.fn : prog.funcs[f_interval_Sub]? = some f_interval_Sub.def := Go.Proofs.Tryz.func55
theorem f_interval_Sub.ok : Callable prog f_interval_Sub := callable_of Go.Proofs.Tryz.func55 (by kernel_rfl) rfl
def f_interval_Sub.live : Nat → Option (List Nat) := fun i => match i with
  | 0 => some [0, 1]
  | 1 => some [4, 5]
  | _ => none
theorem f_interval_Sub.does {W : World} {H : HProp} {R : Ending → HProp → Prop} (a0 a1 : Value) (h : exec prog W tab 13 f_interval_Sub.live (codeOf Go.Proofs.Tryz.f55) (bodyQ prog W tab [.tmp 4, .tmp 5] R) (argFr 0 [a0, a1]) [] H) : Does prog W f_interval_Sub ⟨[a0, a1]⟩ H R :=
  Does.of_exec tab_ok f_interval_Sub.live Go.Proofs.Tryz.func55 rfl rfl rfl (by simp) h
noncomputable abbrev f_slices_AppendSeq_S_int_int.def : Func := Go.Proofs.Tryz.f61
theorem f_slices_AppendSeq_S_int_int.fn : prog.funcs[f_slices_AppendSeq_S_int_int]? = some f_slices_AppendSeq_S_int_int.def := Go.Proofs.Tryz.func61
theorem f_slices_AppendSeq_S_int_int.ok : Callable prog f_slices_AppendSeq_S_int_int := callable_of Go.Proofs.Tryz.func61 (by kernel_rfl) rfl
def f_slices_AppendSeq_S_int_int.live : Nat → Option (List Nat) := fun i => match i with
  | 0 => some [1, 2, 5, 7]
  | 1 => some [2, 5, 6, 7]
  | 2 => some [2]
  | 3 => some [2]
  | 4 => some [4]
  | _ => none
theorem f_slices_AppendSeq_S_int_int.does {W : World} {H : HProp} {R : Ending → HProp → Prop} (a0 a1 : Value) (h : exec prog W tab 13 f_slices_AppendSeq_S_int_int.live (codeOf Go.Proofs.Tryz.f61) (bodyQ prog W tab [.tmp 4] R) (argFr 0 [a0, a1]) [] H) : Does prog W f_slices_AppendSeq_S_int_int ⟨[a0, a1]⟩ H R :=
  Does.of_exec tab_ok f_slices_AppendSeq_S_int_int.live Go.Proofs.Tryz.func61 rfl rfl rfl (by simp) h
noncomputable abbrev f_quotaref18_brought.def : Func := Go.Proofs.Tryz.f64
theorem f_quotaref18_brought.fn : prog.funcs[f_quotaref18_brought]? = some f_quotaref18_brought.def := Go.Proofs.Tryz.func64
theorem f_quotaref18_brought.ok : Callable prog f_quotaref18_brought := callable_of Go.Proofs.Tryz.func64 (by kernel_rfl) rfl
def f_quotaref18_brought.live : Nat → Option (List Nat) := fun i => match i with
  | 0 => some [0, 1]
  | 1 => some [0, 1]
  | 2 => some [0, 1, 9]
  | 3 => some [4]
  | 4 => some [4]
  | _ => none
theorem f_quotaref18_brought.does {W : World} {H : HProp} {R : Ending → HProp → Prop} (a0 a1 : Value) (h : exec prog W tab 14 f_quotaref18_brought.live (codeOf Go.Proofs.Tryz.f64) (bodyQ prog W tab [.tmp 4] R) (argFr 0 [a0, a1]) [] H) : Does prog W f_quotaref18_brought ⟨[a0, a1]⟩ H R :=
  Does.of_exec tab_ok f_quotaref18_brought.live Go.Proofs.Tryz.func64 rfl rfl rfl (by simp) h
noncomputable abbrev f_quotaref18_Story_makes.def : Func := Go.Proofs.Tryz.f65
theorem f_quotaref18_Story_makes.fn : prog.funcs[f_quotaref18_Story_makes]? = some f_quotaref18_Story_makes.def := Go.Proofs.Tryz.func65
theorem f_quotaref18_Story_makes.ok : Callable prog f_quotaref18_Story_makes := callable_of Go.Proofs.Tryz.func65 (by kernel_rfl) rfl
def f_quotaref18_Story_makes.live : Nat → Option (List Nat) := fun i => match i with
  | 0 => some [0, 3]
  | 1 => some [0, 3, 4]
  | 2 => some [0, 3, 4, 5]
  | 3 => some [0, 3, 4, 5, 6]
  | 4 => some [0, 3, 4, 5, 6, 22]
  | 5 => some [0, 3, 4, 5, 6]
  | 6 => some [0, 3, 4, 5, 6, 33]
  | 7 => some [0, 3, 4, 5, 6]
  | 8 => some [0, 3, 4, 5, 36]
  | 9 => some [0, 3, 4, 5]
  | 10 => some [0, 3, 4, 5]
  | 11 => some [0, 3, 4, 5]
  | 12 => some [0, 3, 4, 5, 7]
  | 13 => some [0, 3, 4, 5, 7, 8]
  | 14 => some [0, 3, 4, 5, 7, 9]
  | 15 => some [0, 3, 4, 5, 7, 9, 84]
  | 16 => some [0, 4, 5, 7, 9, 10]
  | 17 => some [0, 5, 9, 10, 11]
  | 18 => some [0, 5, 9, 10, 11]
  | 19 => some [0, 5, 9, 11]
  | 20 => some []
  | _ => none
theorem f_quotaref18_Story_makes.does {W : World} {H : HProp} {R : Ending → HProp → Prop} (a0 a1 : Value) (h : exec prog W tab 135 f_quotaref18_Story_makes.live (codeOf Go.Proofs.Tryz.f65) (bodyQ prog W tab [] R) (argFr 0 [a0, a1]) [] H) : Does prog W f_quotaref18_Story_makes ⟨[a0, a1]⟩ H R :=
  Does.of_exec tab_ok f_quotaref18_Story_makes.live Go.Proofs.Tryz.func65 rfl rfl rfl (by simp) h
def f_quotaref18_Story_makes.plan14 : List Nat := [0, 1, 2, 3, 4, 5, 6, 7, 8, 9]
def f_quotaref18_Story_makes.last14 : List Nat := [9]
def f_quotaref18_Story_makes.plan18 : List Nat := [0, 1, 2, 3, 4, 5, 6, 7, 8, 9, 10, 11, 12, 13, 14, 15, 16, 17, 18, 19]
def f_quotaref18_Story_makes.last18 : List Nat := [17, 18, 19]
def f_quotaref18_Story_makes.plan20 : List Nat := [0, 1, 2, 3, 4, 5, 6, 7, 8, 9, 10, 11]
def f_quotaref18_Story_makes.last20 : List Nat := []
noncomputable abbrev f_quotaref18_Story_writes.def : Func := Go.Proofs.Tryz.f66
theorem f_quotaref18_Story_writes.fn : prog.funcs[f_quotaref18_Story_writes]? = some f_quotaref18_Story_writes.def := Go.Proofs.Tryz.func66
theorem f_quotaref18_Story_writes.ok : Callable prog f_quotaref18_Story_writes := callable_of Go.Proofs.Tryz.func66 (by kernel_rfl) rfl
def f_quotaref18_Story_writes.live : Nat → Option (List Nat) := fun i => match i with
  | 0 => some [0, 3]
  | 1 => some [0, 3]
  | 2 => some [3]
  | 3 => some [4]
  | _ => none
theorem f_quotaref18_Story_writes.does {W : World} {H : HProp} {R : Ending → HProp → Prop} (a0 a1 : Value) (h : exec prog W tab 24 f_quotaref18_Story_writes.live (codeOf Go.Proofs.Tryz.f66) (bodyQ prog W tab [.tmp 4] R) (argFr 0 [a0, a1]) [] H) : Does prog W f_quotaref18_Story_writes ⟨[a0, a1]⟩ H R :=
  Does.of_exec tab_ok f_quotaref18_Story_writes.live Go.Proofs.Tryz.func66 rfl rfl rfl (by simp) h
def f_quotaref18_Story_writes.plan2 : List Nat := [0, 1, 2, 3, 4, 5, 6, 7, 8, 9, 10]
def f_quotaref18_Story_writes.last2 : List Nat := [8, 9, 10]
noncomputable abbrev f_quotaref18_Story_leaves.def : Func := Go.Proofs.Tryz.f67
theorem f_quotaref18_Story_leaves.fn : prog.funcs[f_quotaref18_Story_leaves]? = some f_quotaref18_Story_leaves.def := Go.Proofs.Tryz.func67
theorem f_quotaref18_Story_leaves.ok : Callable prog f_quotaref18_Story_leaves := callable_of Go.Proofs.Tryz.func67 (by kernel_rfl) rfl
def f_quotaref18_Story_leaves.live : Nat → Option (List Nat) := fun i => match i with
  | 0 => some [0, 1, 4]
  | 1 => some [0, 1, 4]
  | 2 => some []
  | _ => none
theorem f_quotaref18_Story_leaves.does {W : World} {H : HProp} {R : Ending → HProp → Prop} (a0 a1 : Value) (h : exec prog W tab 25 f_quotaref18_Story_leaves.live (codeOf Go.Proofs.Tryz.f67) (bodyQ prog W tab [] R) (argFr 0 [a0, a1]) [] H) : Does prog W f_quotaref18_Story_leaves ⟨[a0, a1]⟩ H R :=
  Does.of_exec tab_ok f_quotaref18_Story_leaves.live Go.Proofs.Tryz.func67 rfl rfl rfl (by simp) h
noncomputable abbrev f_quotaref18_Story_change.def : Func := Go.Proofs.Tryz.f68
theorem f_quotaref18_Story_change.fn : prog.funcs[f_quotaref18_Story_change]? = some f_quotaref18_Story_change.def := Go.Proofs.Tryz.func68
theorem f_quotaref18_Story_change.ok : Callable prog f_quotaref18_Story_change := callable_of Go.Proofs.Tryz.func68 (by kernel_rfl) rfl
def f_quotaref18_Story_change.live : Nat → Option (List Nat) := fun i => match i with
  | 0 => some [0, 1, 2, 3, 4, 10]
  | 1 => some [0, 1, 2, 4, 10, 11]
  | 2 => some []
  | _ => none
theorem f_quotaref18_Story_change.does {W : World} {H : HProp} {R : Ending → HProp → Prop} (a0 a1 a2 a3 a4 : Value) (h : exec prog W tab 50 f_quotaref18_Story_change.live (codeOf Go.Proofs.Tryz.f68) (bodyQ prog W tab [] R) (argFr 0 [a0, a1, a2, a3, a4]) [] H) : Does prog W f_quotaref18_Story_change ⟨[a0, a1, a2, a3, a4]⟩ H R :=
  Does.of_exec tab_ok f_quotaref18_Story_change.live Go.Proofs.Tryz.func68 rfl rfl rfl (by simp) h
def f_quotaref18_Story_change.plan2 : List Nat := [0, 1, 2, 3, 4, 5, 6, 7, 8, 9, 10, 11, 12, 13, 14, 15, 16, 17, 18, 19, 20, 21, 22, 23, 24]
def f_quotaref18_Story_change.last2 : List Nat := [22, 23, 24]
noncomputable abbrev f_interval_wide_minus.def : Func := Go.Proofs.Tryz.f90
theorem f_interval_wide_minus.fn : prog.funcs[f_interval_wide_minus]? = some f_interval_wide_minus.def := Go.Proofs.Tryz.func90
theorem f_interval_wide_minus.ok : Callable prog f_interval_wide_minus := callable_of Go.Proofs.Tryz.func90 (by kernel_rfl) rfl
def f_interval_wide_minus.live : Nat → Option (List Nat) := fun i => match i with
  | 0 => some [1, 2, 4]
  | 1 => some [1, 2, 4, 5, 6]
  | 2 => some [4]
  | _ => none
theorem f_interval_wide_minus.does {W : World} {H : HProp} {R : Ending → HProp → Prop} (a0 a1 : Value) (h : exec prog W tab 25 f_interval_wide_minus.live (codeOf Go.Proofs.Tryz.f90) (bodyQ prog W tab [.cell 4 113] R) (argFr 0 [a0, a1]) [] H) : Does prog W f_interval_wide_minus ⟨[a0, a1]⟩ H R :=
  Does.of_exec tab_ok f_interval_wide_minus.live Go.Proofs.Tryz.func90 rfl rfl rfl (by simp) h
end Go.Proofs.YtacpnjlijjgbmaaGreatDoor
