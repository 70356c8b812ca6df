/- The numbers of the functions and types by name, the type table, the live slots, the plans of the regions that draw: written by a program (tools/gen.py). No condition. -/
import Derived.Test.YtijnojaneheaeaaProg
import Derived.KernelRfl
import Derived.Test.YtijnojaneheaeaaDrawT
namespace Go.Proofs.Ytijnojaneheaeaa
open Go Go.SL
abbrev f_quotalaw16_PointsNames : Nat := 3
abbrev f_quotalaw16_PointsExact : Nat := 4
abbrev f_quotalaw16_PointsMerge : Nat := 5
abbrev f_quotalaw16_PointsNewMemory : Nat := 6
abbrev f_quotalaw16_awake : Nat := 7
abbrev f_quotalaw16_lent : Nat := 8
abbrev f_quotalaw16_num : Nat := 9
abbrev f_points_Check : Nat := 10
abbrev f_quotaref16_Check : Nat := 11
abbrev f_points_From : Nat := 12
abbrev f_quotaref16_From : Nat := 13
abbrev f_quotalaw16_kept : Nat := 14
abbrev f_quotalaw16_sameLive : Nat := 15
abbrev f_points_Merge : Nat := 16
abbrev f_quotaref16_Merge : Nat := 17
abbrev f_quotalaw16_same : Nat := 18
abbrev f_quotalaw16_brought : Nat := 19
abbrev f_quotalaw16_fit : Nat := 20
abbrev f_quotalaw16_merged : Nat := 21
abbrev f_points_Take : Nat := 22
abbrev f_record_Check : Nat := 23
abbrev f_quotaref05_Check : Nat := 24
abbrev f_points_since : Nat := 25
abbrev f_slices_Sorted_int : Nat := 26
abbrev f_maps_Keys_M_int_int_int_int : Nat := 27
abbrev f_txns_Table_Live : Nat := 28
abbrev f_pool_Pool_Dirty : Nat := 29
abbrev f_txns_Table_Next : Nat := 30
abbrev f_record_in : Nat := 31
abbrev f_record_slots : Nat := 32
abbrev f_record_checkpoint : Nat := 33
abbrev f_record_below : Nat := 34
abbrev f_record_blank : Nat := 35
abbrev f_quotaref05_fields : Nat := 36
abbrev f_slices_Collect_int : Nat := 37
abbrev f_slices_Sort_S_int_int : Nat := 38
abbrev f_maps_Keys_M_int_int_int_int_1 : Nat := 39
abbrev f_maps_Keys_M_int_api_Live_int_api_Live : Nat := 40
abbrev f_pool_Pool_Held : Nat := 41
abbrev f_quotaref05_within : Nat := 42
abbrev f_quotaref05_none : Nat := 43
abbrev f_quotaref05_apart : Nat := 44
abbrev f_quotaref05_slots : Nat := 45
abbrev f_quotaref05_points : Nat := 46
abbrev f_slices_AppendSeq_S_int_int : Nat := 47
abbrev f_slices_pdqsortOrdered_int : Nat := 48
abbrev f_math_bits_Len : Nat := 49
abbrev f_maps_Keys_M_int_api_Live_int_api_Live_1 : Nat := 50
abbrev f_maps_Keys_M_int_P_pool_frame_int_P_pool_frame : Nat := 51
abbrev f_quotaref05_Live : Nat := 52
abbrev f_quotaref05_Dirty : Nat := 53
abbrev f_slices_insertionSortOrdered_int : Nat := 54
abbrev f_slices_heapSortOrdered_int : Nat := 55
abbrev f_slices_breakPatternsOrdered_int : Nat := 56
abbrev f_slices_choosePivotOrdered_int : Nat := 57
abbrev f_slices_reverseRangeOrdered_int : Nat := 58
abbrev f_slices_partialInsertionSortOrdered_int : Nat := 59
abbrev f_cmp_Less_int : Nat := 60
abbrev f_slices_partitionEqualOrdered_int : Nat := 61
abbrev f_slices_partitionOrdered_int : Nat := 62
abbrev f_math_bits_Len32 : Nat := 63
abbrev f_math_bits_Len64 : Nat := 64
abbrev f_maps_Keys_M_int_P_pool_frame_int_P_pool_frame_1 : Nat := 65
abbrev f_slices_siftDownOrdered_int : Nat := 66
abbrev f_slices_nextPowerOfTwo : Nat := 67
abbrev f_slices_xorshift_Next : Nat := 68
abbrev f_slices_medianAdjacentOrdered_int : Nat := 69
abbrev f_slices_medianOrdered_int : Nat := 70
abbrev f_cmp_isNaN_int : Nat := 71
abbrev f_slices_order2Ordered_int : Nat := 72
abbrev t_int64 : Nat := 2
abbrev t_int : Nat := 3
abbrev t_bool : Nat := 4
abbrev t_uint8 : Nat := 5
abbrev t_string : Nat := 9
abbrev t_S_api_Live : Nat := 23
abbrev t_S_api_Dirty : Nat := 24
abbrev t_api_Points : Nat := 26
abbrev t_api_Errno : Nat := 29
abbrev t_api_Dirty : Nat := 40
abbrev t_S_S_api_Dirty : Nat := 44
abbrev t_api_Kind : Nat := 48
abbrev t_api_Slot : Nat := 50
abbrev t_api_Range : Nat := 52
abbrev t_api_Counter : Nat := 54
abbrev t_api_Record : Nat := 56
abbrev t_api_Live : Nat := 59
abbrev t_M_int_int : Nat := 60
abbrev t_S_int : Nat := 62
abbrev t_iter_Seq_int : Nat := 65
abbrev t_P_txns_Table : Nat := 67
abbrev t_P_pool_Pool : Nat := 68
abbrev t_M_int_api_Live : Nat := 81
abbrev t_txns_Table : Nat := 83
abbrev t_P_pool_frame : Nat := 85
abbrev t_P_sectors_Device : Nat := 86
abbrev t_P_log_Log : Nat := 87
abbrev t_api_Shape : Nat := 89
abbrev t_M_int_P_pool_frame : Nat := 90
abbrev t_pool_Pool : Nat := 92
abbrev t_S_api_Counter : Nat := 93
abbrev t_S_api_Group : Nat := 94
abbrev t_page_Page : Nat := 96
abbrev t_pool_frame : Nat := 98
abbrev t_uint : Nat := 103
abbrev t_slices_sortedHint : Nat := 108
abbrev t_uint32 : Nat := 115
abbrev t_uint64 : Nat := 117
abbrev t_slices_xorshift : Nat := 118
abbrev t_P_int : Nat := 122
abbrev t_api_Group : Nat := 156
noncomputable abbrev prog : Program := Go.Proofs.Try.prog
def findT : List (Nat × TRow) → Nat → Option TRow
  | [], _ => none
  | (k, r) :: l, t => match Nat.beq k t with
    | true => some r
    | false => findT l t
def rows : List (Nat × TRow) := [
  (3, ⟨(.int .i64), [(.int .i64 0)], false, 1, 8⟩),
  (24, ⟨(.slice 40), [(.slice none 0 0)], false, 1, 24⟩),
  (62, ⟨(.slice 3), [(.slice none 0 0)], false, 1, 24⟩),
  (56, ⟨(.struct ⟨[⟨"LSN", 3, 0, false, "", "", 0⟩, ⟨"Kind", 48, 1, false, "", "", 8⟩, ⟨"Tx", 3, 2, false, "", "", 16⟩, ⟨"Prev", 3, 3, false, "", "", 24⟩, ⟨"Where", 50, 4, false, "", "", 32⟩, ⟨"Sums", 50, 6, false, "", "", 48⟩, ⟨"Delta", 2, 8, false, "", "", 64⟩, ⟨"Counter", 54, 9, false, "", "", 72⟩, ⟨"Points", 26, 14, false, "", "", 112⟩]⟩), [(.int .i64 0), (.int .i64 0), (.int .i64 0), (.int .i64 0), (.int .i64 0), (.int .i64 0), (.int .i64 0), (.int .i64 0), (.int .i64 0), (.int .i64 0), (.int .i64 0), (.int .i64 0), (.int .i64 0), (.int .i64 0), (.slice none 0 0), (.slice none 0 0), (.int .i64 0)], true, 17, 168⟩),
  (26, ⟨(.struct ⟨[⟨"Live", 23, 0, false, "", "", 0⟩, ⟨"Dirty", 24, 1, false, "", "", 24⟩, ⟨"Next", 3, 2, false, "", "", 48⟩]⟩), [(.slice none 0 0), (.slice none 0 0), (.int .i64 0)], true, 3, 56⟩),
  (40, ⟨(.struct ⟨[⟨"Page", 3, 0, false, "", "", 0⟩, ⟨"Since", 3, 1, false, "", "", 8⟩]⟩), [(.int .i64 0), (.int .i64 0)], true, 2, 16⟩),
  (4, ⟨.bool, [(.bool false)], false, 1, 1⟩),
  (50, ⟨(.struct ⟨[⟨"Page", 3, 0, false, "", "", 0⟩, ⟨"Index", 3, 1, false, "", "", 8⟩]⟩), [(.int .i64 0), (.int .i64 0)], true, 2, 16⟩),
  (23, ⟨(.slice 59), [(.slice none 0 0)], false, 1, 24⟩),
  (54, ⟨(.struct ⟨[⟨"ID", 3, 0, false, "", "", 0⟩, ⟨"Group", 3, 1, false, "", "", 8⟩, ⟨"Bounds", 52, 2, false, "", "", 16⟩, ⟨"Value", 2, 4, false, "", "", 32⟩]⟩), [(.int .i64 0), (.int .i64 0), (.int .i64 0), (.int .i64 0), (.int .i64 0)], true, 5, 40⟩),
  (44, ⟨(.slice 24), [(.slice none 0 0)], false, 1, 24⟩),
  (48, ⟨(.int .i64), [(.int .i64 0)], false, 1, 8⟩),
  (59, ⟨(.struct ⟨[⟨"Tx", 3, 0, false, "", "", 0⟩, ⟨"Last", 3, 1, false, "", "", 8⟩, ⟨"Committed", 4, 2, false, "", "", 16⟩, ⟨"Undoing", 4, 3, false, "", "", 17⟩]⟩), [(.int .i64 0), (.int .i64 0), (.bool false), (.bool false)], true, 4, 24⟩),
  (118, ⟨(.int .u64), [(.int .u64 0)], false, 1, 8⟩),
  (2, ⟨(.int .i64), [(.int .i64 0)], false, 1, 8⟩),
  (29, ⟨(.int .i64), [(.int .i64 0)], false, 1, 8⟩),
  (60, ⟨(.map 3 3), [(.map none)], false, 1, 8⟩),
  (103, ⟨(.int .u64), [(.int .u64 0)], false, 1, 8⟩),
  (117, ⟨(.int .u64), [(.int .u64 0)], false, 1, 8⟩),
  (122, ⟨(.pointer 3), [(.pointer none)], false, 1, 8⟩),
  (81, ⟨(.map 3 59), [(.map none)], false, 1, 8⟩),
  (90, ⟨(.map 3 85), [(.map none)], false, 1, 8⟩),
  (115, ⟨(.int .u32), [(.int .u32 0)], false, 1, 4⟩),
  (65, ⟨(.func #[79] #[] false), [.nilFunc], false, 1, 8⟩),
  (67, ⟨(.pointer 83), [(.pointer none)], false, 1, 8⟩),
  (68, ⟨(.pointer 92), [(.pointer none)], false, 1, 8⟩),
  (52, ⟨(.struct ⟨[⟨"Lo", 2, 0, false, "", "", 0⟩, ⟨"Hi", 2, 1, false, "", "", 8⟩]⟩), [(.int .i64 0), (.int .i64 0)], true, 2, 16⟩),
  (5, ⟨(.int .u8), [(.int .u8 0)], false, 1, 1⟩),
  (83, ⟨(.struct ⟨[⟨"live", 81, 0, false, "", "quota/txns", 0⟩, ⟨"next", 3, 1, false, "", "quota/txns", 8⟩]⟩), [(.map none), (.int .i64 0)], true, 2, 16⟩),
  (92, ⟨(.struct ⟨[⟨"d", 86, 0, false, "", "quota/pool", 0⟩, ⟨"l", 87, 1, false, "", "quota/pool", 8⟩, ⟨"shape", 89, 2, false, "", "quota/pool", 16⟩, ⟨"held", 90, 5, false, "", "quota/pool", 40⟩, ⟨"clock", 3, 6, false, "", "quota/pool", 48⟩, ⟨"ended", 4, 7, false, "", "quota/pool", 56⟩]⟩), [(.pointer none), (.pointer none), (.int .i64 0), (.int .i64 0), (.int .i64 0), (.map none), (.int .i64 0), (.bool false)], true, 8, 64⟩),
  (98, ⟨(.struct ⟨[⟨"state", 96, 0, false, "", "quota/pool", 0⟩, ⟨"pins", 3, 4, false, "", "quota/pool", 64⟩, ⟨"dirty", 4, 5, false, "", "quota/pool", 72⟩, ⟨"since", 3, 6, false, "", "quota/pool", 80⟩, ⟨"used", 3, 7, false, "", "quota/pool", 88⟩]⟩), [(.int .i64 0), (.int .i64 0), (.slice none 0 0), (.slice none 0 0), (.int .i64 0), (.bool false), (.int .i64 0), (.int .i64 0)], true, 8, 96⟩),
  (108, ⟨(.int .i64), [(.int .i64 0)], false, 1, 8⟩),
  (9, ⟨.string, [(.string ⟨#[]⟩)], false, 1, 16⟩),
  (96, ⟨(.struct ⟨[⟨"Number", 3, 0, false, "", "", 0⟩, ⟨"LSN", 3, 1, false, "", "", 8⟩, ⟨"Counters", 93, 2, false, "", "", 16⟩, ⟨"Groups", 94, 3, false, "", "", 40⟩]⟩), [(.int .i64 0), (.int .i64 0), (.slice none 0 0), (.slice none 0 0)], true, 4, 64⟩),
  (93, ⟨(.slice 54), [(.slice none 0 0)], false, 1, 24⟩),
  (94, ⟨(.slice 156), [(.slice none 0 0)], false, 1, 24⟩),
  (156, ⟨(.struct ⟨[⟨"ID", 3, 0, false, "", "", 0⟩, ⟨"Sum", 2, 1, false, "", "", 8⟩]⟩), [(.int .i64 0), (.int .i64 0)], true, 2, 16⟩),
  (85, ⟨(.pointer 98), [(.pointer none)], false, 1, 8⟩),
  (86, ⟨(.pointer 148), [(.pointer none)], false, 1, 8⟩),
  (87, ⟨(.pointer 154), [(.pointer none)], false, 1, 8⟩),
  (89, ⟨(.struct ⟨[⟨"Pages", 3, 0, false, "", "", 0⟩, ⟨"Log", 3, 1, false, "", "", 8⟩, ⟨"Frames", 3, 2, false, "", "", 16⟩]⟩), [(.int .i64 0), (.int .i64 0), (.int .i64 0)], true, 3, 24⟩)]
def tab : Tab := fun t => findT rows t
def AllOk (P : Program) : List (Nat × TRow) → Prop
  | [] => True
  | p :: l => p.2.ok P p.1 ∧ AllOk P l
theorem findT_ok {P : Program} : ∀ (l : List (Nat × TRow)), AllOk P l → ∀ t r, findT l t = some r → r.ok P t
  | [], _, _, _, h => by simp [findT] at h
  | (k, r) :: l, ⟨h1, h2⟩, t, r', h => by
    simp only [findT] at h
    split at h
    · rename_i hb; cases h; obtain rfl := Nat.eq_of_beq_eq_true hb; exact h1
    · exact findT_ok l h2 t r' h
theorem row3 : TRow.ok prog 3 ⟨(.int .i64), [(.int .i64 0)], false, 1, 8⟩ := ⟨Go.Proofs.Try.underlying3, rfl, Go.Proofs.Try.t3, by kernel_rfl, by kernel_rfl, by kernel_rfl, by kernel_rfl, fun _ => ⟨_, rfl, rfl⟩⟩
theorem row24 : TRow.ok prog 24 ⟨(.slice 40), [(.slice none 0 0)], false, 1, 24⟩ := ⟨Go.Proofs.Try.underlying24, rfl, Go.Proofs.Try.t24, by kernel_rfl, by kernel_rfl, by kernel_rfl, by kernel_rfl, fun _ => ⟨_, rfl, rfl⟩⟩
theorem row62 : TRow.ok prog 62 ⟨(.slice 3), [(.slice none 0 0)], false, 1, 24⟩ := ⟨Go.Proofs.Try.underlying62, rfl, Go.Proofs.Try.t62, by kernel_rfl, by kernel_rfl, by kernel_rfl, by kernel_rfl, fun _ => ⟨_, rfl, rfl⟩⟩
theorem row56 : TRow.ok prog 56 ⟨(.struct ⟨[⟨"LSN", 3, 0, false, "", "", 0⟩, ⟨"Kind", 48, 1, false, "", "", 8⟩, ⟨"Tx", 3, 2, false, "", "", 16⟩, ⟨"Prev", 3, 3, false, "", "", 24⟩, ⟨"Where", 50, 4, false, "", "", 32⟩, ⟨"Sums", 50, 6, false, "", "", 48⟩, ⟨"Delta", 2, 8, false, "", "", 64⟩, ⟨"Counter", 54, 9, false, "", "", 72⟩, ⟨"Points", 26, 14, false, "", "", 112⟩]⟩), [(.int .i64 0), (.int .i64 0), (.int .i64 0), (.int .i64 0), (.int .i64 0), (.int .i64 0), (.int .i64 0), (.int .i64 0), (.int .i64 0), (.int .i64 0), (.int .i64 0), (.int .i64 0), (.int .i64 0), (.int .i64 0), (.slice none 0 0), (.slice none 0 0), (.int .i64 0)], true, 17, 168⟩ := ⟨Go.Proofs.Try.underlying56, rfl, Go.Proofs.Try.t56, by kernel_rfl, by kernel_rfl, by kernel_rfl, by kernel_rfl, fun h => by cases h⟩
theorem row26 : TRow.ok prog 26 ⟨(.struct ⟨[⟨"Live", 23, 0, false, "", "", 0⟩, ⟨"Dirty", 24, 1, false, "", "", 24⟩, ⟨"Next", 3, 2, false, "", "", 48⟩]⟩), [(.slice none 0 0), (.slice none 0 0), (.int .i64 0)], true, 3, 56⟩ := ⟨Go.Proofs.Try.underlying26, rfl, Go.Proofs.Try.t26, by kernel_rfl, by kernel_rfl, by kernel_rfl, by kernel_rfl, fun h => by cases h⟩
theorem row40 : TRow.ok prog 40 ⟨(.struct ⟨[⟨"Page", 3, 0, false, "", "", 0⟩, ⟨"Since", 3, 1, false, "", "", 8⟩]⟩), [(.int .i64 0), (.int .i64 0)], true, 2, 16⟩ := ⟨Go.Proofs.Try.underlying40, rfl, Go.Proofs.Try.t40, by kernel_rfl, by kernel_rfl, by kernel_rfl, by kernel_rfl, fun h => by cases h⟩
theorem row4 : TRow.ok prog 4 ⟨.bool, [(.bool false)], false, 1, 1⟩ := ⟨Go.Proofs.Try.underlying4, rfl, Go.Proofs.Try.t4, by kernel_rfl, by kernel_rfl, by kernel_rfl, by kernel_rfl, fun _ => ⟨_, rfl, rfl⟩⟩
theorem row50 : TRow.ok prog 50 ⟨(.struct ⟨[⟨"Page", 3, 0, false, "", "", 0⟩, ⟨"Index", 3, 1, false, "", "", 8⟩]⟩), [(.int .i64 0), (.int .i64 0)], true, 2, 16⟩ := ⟨Go.Proofs.Try.underlying50, rfl, Go.Proofs.Try.t50, by kernel_rfl, by kernel_rfl, by kernel_rfl, by kernel_rfl, fun h => by cases h⟩
theorem row23 : TRow.ok prog 23 ⟨(.slice 59), [(.slice none 0 0)], false, 1, 24⟩ := ⟨Go.Proofs.Try.underlying23, rfl, Go.Proofs.Try.t23, by kernel_rfl, by kernel_rfl, by kernel_rfl, by kernel_rfl, fun _ => ⟨_, rfl, rfl⟩⟩
theorem row54 : TRow.ok prog 54 ⟨(.struct ⟨[⟨"ID", 3, 0, false, "", "", 0⟩, ⟨"Group", 3, 1, false, "", "", 8⟩, ⟨"Bounds", 52, 2, false, "", "", 16⟩, ⟨"Value", 2, 4, false, "", "", 32⟩]⟩), [(.int .i64 0), (.int .i64 0), (.int .i64 0), (.int .i64 0), (.int .i64 0)], true, 5, 40⟩ := ⟨Go.Proofs.Try.underlying54, rfl, Go.Proofs.Try.t54, by kernel_rfl, by kernel_rfl, by kernel_rfl, by kernel_rfl, fun h => by cases h⟩
theorem row44 : TRow.ok prog 44 ⟨(.slice 24), [(.slice none 0 0)], false, 1, 24⟩ := ⟨Go.Proofs.Try.underlying44, rfl, Go.Proofs.Try.t44, by kernel_rfl, by kernel_rfl, by kernel_rfl, by kernel_rfl, fun _ => ⟨_, rfl, rfl⟩⟩
theorem row48 : TRow.ok prog 48 ⟨(.int .i64), [(.int .i64 0)], false, 1, 8⟩ := ⟨Go.Proofs.Try.underlying48, rfl, Go.Proofs.Try.t48, by kernel_rfl, by kernel_rfl, by kernel_rfl, by kernel_rfl, fun _ => ⟨_, rfl, rfl⟩⟩
theorem row59 : TRow.ok prog 59 ⟨(.struct ⟨[⟨"Tx", 3, 0, false, "", "", 0⟩, ⟨"Last", 3, 1, false, "", "", 8⟩, ⟨"Committed", 4, 2, false, "", "", 16⟩, ⟨"Undoing", 4, 3, false, "", "", 17⟩]⟩), [(.int .i64 0), (.int .i64 0), (.bool false), (.bool false)], true, 4, 24⟩ := ⟨Go.Proofs.Try.underlying59, rfl, Go.Proofs.Try.t59, by kernel_rfl, by kernel_rfl, by kernel_rfl, by kernel_rfl, fun h => by cases h⟩
theorem row118 : TRow.ok prog 118 ⟨(.int .u64), [(.int .u64 0)], false, 1, 8⟩ := ⟨Go.Proofs.Try.underlying118, rfl, Go.Proofs.Try.t118, by kernel_rfl, by kernel_rfl, by kernel_rfl, by kernel_rfl, fun _ => ⟨_, rfl, rfl⟩⟩
theorem row2 : TRow.ok prog 2 ⟨(.int .i64), [(.int .i64 0)], false, 1, 8⟩ := ⟨Go.Proofs.Try.underlying2, rfl, Go.Proofs.Try.t2, by kernel_rfl, by kernel_rfl, by kernel_rfl, by kernel_rfl, fun _ => ⟨_, rfl, rfl⟩⟩
theorem row29 : TRow.ok prog 29 ⟨(.int .i64), [(.int .i64 0)], false, 1, 8⟩ := ⟨Go.Proofs.Try.underlying29, rfl, Go.Proofs.Try.t29, by kernel_rfl, by kernel_rfl, by kernel_rfl, by kernel_rfl, fun _ => ⟨_, rfl, rfl⟩⟩
theorem row60 : TRow.ok prog 60 ⟨(.map 3 3), [(.map none)], false, 1, 8⟩ := ⟨Go.Proofs.Try.underlying60, rfl, Go.Proofs.Try.t60, by kernel_rfl, by kernel_rfl, by kernel_rfl, by kernel_rfl, fun _ => ⟨_, rfl, rfl⟩⟩
theorem row103 : TRow.ok prog 103 ⟨(.int .u64), [(.int .u64 0)], false, 1, 8⟩ := ⟨Go.Proofs.Try.underlying103, rfl, Go.Proofs.Try.t103, by kernel_rfl, by kernel_rfl, by kernel_rfl, by kernel_rfl, fun _ => ⟨_, rfl, rfl⟩⟩
theorem row117 : TRow.ok prog 117 ⟨(.int .u64), [(.int .u64 0)], false, 1, 8⟩ := ⟨Go.Proofs.Try.underlying117, rfl, Go.Proofs.Try.t117, by kernel_rfl, by kernel_rfl, by kernel_rfl, by kernel_rfl, fun _ => ⟨_, rfl, rfl⟩⟩
theorem row122 : TRow.ok prog 122 ⟨(.pointer 3), [(.pointer none)], false, 1, 8⟩ := ⟨Go.Proofs.Try.underlying122, rfl, Go.Proofs.Try.t122, by kernel_rfl, by kernel_rfl, by kernel_rfl, by kernel_rfl, fun _ => ⟨_, rfl, rfl⟩⟩
theorem row81 : TRow.ok prog 81 ⟨(.map 3 59), [(.map none)], false, 1, 8⟩ := ⟨Go.Proofs.Try.underlying81, rfl, Go.Proofs.Try.t81, by kernel_rfl, by kernel_rfl, by kernel_rfl, by kernel_rfl, fun _ => ⟨_, rfl, rfl⟩⟩
theorem row90 : TRow.ok prog 90 ⟨(.map 3 85), [(.map none)], false, 1, 8⟩ := ⟨Go.Proofs.Try.underlying90, rfl, Go.Proofs.Try.t90, by kernel_rfl, by kernel_rfl, by kernel_rfl, by kernel_rfl, fun _ => ⟨_, rfl, rfl⟩⟩
theorem row115 : TRow.ok prog 115 ⟨(.int .u32), [(.int .u32 0)], false, 1, 4⟩ := ⟨Go.Proofs.Try.underlying115, rfl, Go.Proofs.Try.t115, by kernel_rfl, by kernel_rfl, by kernel_rfl, by kernel_rfl, fun _ => ⟨_, rfl, rfl⟩⟩
theorem row65 : TRow.ok prog 65 ⟨(.func #[79] #[] false), [.nilFunc], false, 1, 8⟩ := ⟨Go.Proofs.Try.underlying65, rfl, Go.Proofs.Try.t65, by kernel_rfl, by kernel_rfl, by kernel_rfl, by kernel_rfl, fun _ => ⟨_, rfl, rfl⟩⟩
theorem row67 : TRow.ok prog 67 ⟨(.pointer 83), [(.pointer none)], false, 1, 8⟩ := ⟨Go.Proofs.Try.underlying67, rfl, Go.Proofs.Try.t67, by kernel_rfl, by kernel_rfl, by kernel_rfl, by kernel_rfl, fun _ => ⟨_, rfl, rfl⟩⟩
theorem row68 : TRow.ok prog 68 ⟨(.pointer 92), [(.pointer none)], false, 1, 8⟩ := ⟨Go.Proofs.Try.underlying68, rfl, Go.Proofs.Try.t68, by kernel_rfl, by kernel_rfl, by kernel_rfl, by kernel_rfl, fun _ => ⟨_, rfl, rfl⟩⟩
theorem row52 : TRow.ok prog 52 ⟨(.struct ⟨[⟨"Lo", 2, 0, false, "", "", 0⟩, ⟨"Hi", 2, 1, false, "", "", 8⟩]⟩), [(.int .i64 0), (.int .i64 0)], true, 2, 16⟩ := ⟨Go.Proofs.Try.underlying52, rfl, Go.Proofs.Try.t52, by kernel_rfl, by kernel_rfl, by kernel_rfl, by kernel_rfl, fun h => by cases h⟩
theorem row5 : TRow.ok prog 5 ⟨(.int .u8), [(.int .u8 0)], false, 1, 1⟩ := ⟨Go.Proofs.Try.underlying5, rfl, Go.Proofs.Try.t5, by kernel_rfl, by kernel_rfl, by kernel_rfl, by kernel_rfl, fun _ => ⟨_, rfl, rfl⟩⟩
theorem row83 : TRow.ok prog 83 ⟨(.struct ⟨[⟨"live", 81, 0, false, "", "quota/txns", 0⟩, ⟨"next", 3, 1, false, "", "quota/txns", 8⟩]⟩), [(.map none), (.int .i64 0)], true, 2, 16⟩ := ⟨Go.Proofs.Try.underlying83, rfl, Go.Proofs.Try.t83, by kernel_rfl, by kernel_rfl, by kernel_rfl, by kernel_rfl, fun h => by cases h⟩
theorem row92 : TRow.ok prog 92 ⟨(.struct ⟨[⟨"d", 86, 0, false, "", "quota/pool", 0⟩, ⟨"l", 87, 1, false, "", "quota/pool", 8⟩, ⟨"shape", 89, 2, false, "", "quota/pool", 16⟩, ⟨"held", 90, 5, false, "", "quota/pool", 40⟩, ⟨"clock", 3, 6, false, "", "quota/pool", 48⟩, ⟨"ended", 4, 7, false, "", "quota/pool", 56⟩]⟩), [(.pointer none), (.pointer none), (.int .i64 0), (.int .i64 0), (.int .i64 0), (.map none), (.int .i64 0), (.bool false)], true, 8, 64⟩ := ⟨Go.Proofs.Try.underlying92, rfl, Go.Proofs.Try.t92, by kernel_rfl, by kernel_rfl, by kernel_rfl, by kernel_rfl, fun h => by cases h⟩
theorem row98 : TRow.ok prog 98 ⟨(.struct ⟨[⟨"state", 96, 0, false, "", "quota/pool", 0⟩, ⟨"pins", 3, 4, false, "", "quota/pool", 64⟩, ⟨"dirty", 4, 5, false, "", "quota/pool", 72⟩, ⟨"since", 3, 6, false, "", "quota/pool", 80⟩, ⟨"used", 3, 7, false, "", "quota/pool", 88⟩]⟩), [(.int .i64 0), (.int .i64 0), (.slice none 0 0), (.slice none 0 0), (.int .i64 0), (.bool false), (.int .i64 0), (.int .i64 0)], true, 8, 96⟩ := ⟨Go.Proofs.Try.underlying98, rfl, Go.Proofs.Try.t98, by kernel_rfl, by kernel_rfl, by kernel_rfl, by kernel_rfl, fun h => by cases h⟩
theorem row108 : TRow.ok prog 108 ⟨(.int .i64), [(.int .i64 0)], false, 1, 8⟩ := ⟨Go.Proofs.Try.underlying108, rfl, Go.Proofs.Try.t108, by kernel_rfl, by kernel_rfl, by kernel_rfl, by kernel_rfl, fun _ => ⟨_, rfl, rfl⟩⟩
theorem row9 : TRow.ok prog 9 ⟨.string, [(.string ⟨#[]⟩)], false, 1, 16⟩ := ⟨Go.Proofs.Try.underlying9, rfl, Go.Proofs.Try.t9, by kernel_rfl, by kernel_rfl, by kernel_rfl, by kernel_rfl, fun _ => ⟨_, rfl, rfl⟩⟩
theorem row96 : TRow.ok prog 96 ⟨(.struct ⟨[⟨"Number", 3, 0, false, "", "", 0⟩, ⟨"LSN", 3, 1, false, "", "", 8⟩, ⟨"Counters", 93, 2, false, "", "", 16⟩, ⟨"Groups", 94, 3, false, "", "", 40⟩]⟩), [(.int .i64 0), (.int .i64 0), (.slice none 0 0), (.slice none 0 0)], true, 4, 64⟩ := ⟨Go.Proofs.Try.underlying96, rfl, Go.Proofs.Try.t96, by kernel_rfl, by kernel_rfl, by kernel_rfl, by kernel_rfl, fun h => by cases h⟩
theorem row93 : TRow.ok prog 93 ⟨(.slice 54), [(.slice none 0 0)], false, 1, 24⟩ := ⟨Go.Proofs.Try.underlying93, rfl, Go.Proofs.Try.t93, by kernel_rfl, by kernel_rfl, by kernel_rfl, by kernel_rfl, fun _ => ⟨_, rfl, rfl⟩⟩
theorem row94 : TRow.ok prog 94 ⟨(.slice 156), [(.slice none 0 0)], false, 1, 24⟩ := ⟨Go.Proofs.Try.underlying94, rfl, Go.Proofs.Try.t94, by kernel_rfl, by kernel_rfl, by kernel_rfl, by kernel_rfl, fun _ => ⟨_, rfl, rfl⟩⟩
theorem row156 : TRow.ok prog 156 ⟨(.struct ⟨[⟨"ID", 3, 0, false, "", "", 0⟩, ⟨"Sum", 2, 1, false, "", "", 8⟩]⟩), [(.int .i64 0), (.int .i64 0)], true, 2, 16⟩ := ⟨Go.Proofs.Try.underlying156, rfl, Go.Proofs.Try.t156, by kernel_rfl, by kernel_rfl, by kernel_rfl, by kernel_rfl, fun h => by cases h⟩
theorem row85 : TRow.ok prog 85 ⟨(.pointer 98), [(.pointer none)], false, 1, 8⟩ := ⟨Go.Proofs.Try.underlying85, rfl, Go.Proofs.Try.t85, by kernel_rfl, by kernel_rfl, by kernel_rfl, by kernel_rfl, fun _ => ⟨_, rfl, rfl⟩⟩
theorem row86 : TRow.ok prog 86 ⟨(.pointer 148), [(.pointer none)], false, 1, 8⟩ := ⟨Go.Proofs.Try.underlying86, rfl, Go.Proofs.Try.t86, by kernel_rfl, by kernel_rfl, by kernel_rfl, by kernel_rfl, fun _ => ⟨_, rfl, rfl⟩⟩
theorem row87 : TRow.ok prog 87 ⟨(.pointer 154), [(.pointer none)], false, 1, 8⟩ := ⟨Go.Proofs.Try.underlying87, rfl, Go.Proofs.Try.t87, by kernel_rfl, by kernel_rfl, by kernel_rfl, by kernel_rfl, fun _ => ⟨_, rfl, rfl⟩⟩
theorem row89 : TRow.ok prog 89 ⟨(.struct ⟨[⟨"Pages", 3, 0, false, "", "", 0⟩, ⟨"Log", 3, 1, false, "", "", 8⟩, ⟨"Frames", 3, 2, false, "", "", 16⟩]⟩), [(.int .i64 0), (.int .i64 0), (.int .i64 0)], true, 3, 24⟩ := ⟨Go.Proofs.Try.underlying89, rfl, Go.Proofs.Try.t89, by kernel_rfl, by kernel_rfl, by kernel_rfl, by kernel_rfl, fun h => by cases h⟩
theorem u_int : prog.underlying t_int = some (.int .i64) := Go.Proofs.Try.underlying3
theorem u_S_api_Dirty : prog.underlying t_S_api_Dirty = some (.slice 40) := Go.Proofs.Try.underlying24
theorem u_S_int : prog.underlying t_S_int = some (.slice 3) := Go.Proofs.Try.underlying62
theorem u_api_Record : prog.underlying t_api_Record = some (.struct ⟨[⟨"LSN", 3, 0, false, "", "", 0⟩, ⟨"Kind", 48, 1, false, "", "", 8⟩, ⟨"Tx", 3, 2, false, "", "", 16⟩, ⟨"Prev", 3, 3, false, "", "", 24⟩, ⟨"Where", 50, 4, false, "", "", 32⟩, ⟨"Sums", 50, 6, false, "", "", 48⟩, ⟨"Delta", 2, 8, false, "", "", 64⟩, ⟨"Counter", 54, 9, false, "", "", 72⟩, ⟨"Points", 26, 14, false, "", "", 112⟩]⟩) := Go.Proofs.Try.underlying56
theorem u_api_Points : prog.underlying t_api_Points = some (.struct ⟨[⟨"Live", 23, 0, false, "", "", 0⟩, ⟨"Dirty", 24, 1, false, "", "", 24⟩, ⟨"Next", 3, 2, false, "", "", 48⟩]⟩) := Go.Proofs.Try.underlying26
theorem u_api_Dirty : prog.underlying t_api_Dirty = some (.struct ⟨[⟨"Page", 3, 0, false, "", "", 0⟩, ⟨"Since", 3, 1, false, "", "", 8⟩]⟩) := Go.Proofs.Try.underlying40
theorem u_bool : prog.underlying t_bool = some .bool := Go.Proofs.Try.underlying4
theorem u_api_Slot : prog.underlying t_api_Slot = some (.struct ⟨[⟨"Page", 3, 0, false, "", "", 0⟩, ⟨"Index", 3, 1, false, "", "", 8⟩]⟩) := Go.Proofs.Try.underlying50
theorem u_S_api_Live : prog.underlying t_S_api_Live = some (.slice 59) := Go.Proofs.Try.underlying23
theorem u_api_Counter : prog.underlying t_api_Counter = some (.struct ⟨[⟨"ID", 3, 0, false, "", "", 0⟩, ⟨"Group", 3, 1, false, "", "", 8⟩, ⟨"Bounds", 52, 2, false, "", "", 16⟩, ⟨"Value", 2, 4, false, "", "", 32⟩]⟩) := Go.Proofs.Try.underlying54
theorem u_S_S_api_Dirty : prog.underlying t_S_S_api_Dirty = some (.slice 24) := Go.Proofs.Try.underlying44
theorem u_api_Kind : prog.underlying t_api_Kind = some (.int .i64) := Go.Proofs.Try.underlying48
theorem u_api_Live : prog.underlying t_api_Live = some (.struct ⟨[⟨"Tx", 3, 0, false, "", "", 0⟩, ⟨"Last", 3, 1, false, "", "", 8⟩, ⟨"Committed", 4, 2, false, "", "", 16⟩, ⟨"Undoing", 4, 3, false, "", "", 17⟩]⟩) := Go.Proofs.Try.underlying59
theorem u_slices_xorshift : prog.underlying t_slices_xorshift = some (.int .u64) := Go.Proofs.Try.underlying118
theorem u_int64 : prog.underlying t_int64 = some (.int .i64) := Go.Proofs.Try.underlying2
theorem u_api_Errno : prog.underlying t_api_Errno = some (.int .i64) := Go.Proofs.Try.underlying29
theorem u_M_int_int : prog.underlying t_M_int_int = some (.map 3 3) := Go.Proofs.Try.underlying60
theorem u_uint : prog.underlying t_uint = some (.int .u64) := Go.Proofs.Try.underlying103
theorem u_uint64 : prog.underlying t_uint64 = some (.int .u64) := Go.Proofs.Try.underlying117
theorem u_P_int : prog.underlying t_P_int = some (.pointer 3) := Go.Proofs.Try.underlying122
theorem u_M_int_api_Live : prog.underlying t_M_int_api_Live = some (.map 3 59) := Go.Proofs.Try.underlying81
theorem u_M_int_P_pool_frame : prog.underlying t_M_int_P_pool_frame = some (.map 3 85) := Go.Proofs.Try.underlying90
theorem u_uint32 : prog.underlying t_uint32 = some (.int .u32) := Go.Proofs.Try.underlying115
theorem u_iter_Seq_int : prog.underlying t_iter_Seq_int = some (.func #[79] #[] false) := Go.Proofs.Try.underlying65
theorem u_P_txns_Table : prog.underlying t_P_txns_Table = some (.pointer 83) := Go.Proofs.Try.underlying67
theorem u_P_pool_Pool : prog.underlying t_P_pool_Pool = some (.pointer 92) := Go.Proofs.Try.underlying68
theorem u_api_Range : prog.underlying t_api_Range = some (.struct ⟨[⟨"Lo", 2, 0, false, "", "", 0⟩, ⟨"Hi", 2, 1, false, "", "", 8⟩]⟩) := Go.Proofs.Try.underlying52
theorem u_uint8 : prog.underlying t_uint8 = some (.int .u8) := Go.Proofs.Try.underlying5
theorem u_txns_Table : prog.underlying t_txns_Table = some (.struct ⟨[⟨"live", 81, 0, false, "", "quota/txns", 0⟩, ⟨"next", 3, 1, false, "", "quota/txns", 8⟩]⟩) := Go.Proofs.Try.underlying83
theorem u_pool_Pool : prog.underlying t_pool_Pool = some (.struct ⟨[⟨"d", 86, 0, false, "", "quota/pool", 0⟩, ⟨"l", 87, 1, false, "", "quota/pool", 8⟩, ⟨"shape", 89, 2, false, "", "quota/pool", 16⟩, ⟨"held", 90, 5, false, "", "quota/pool", 40⟩, ⟨"clock", 3, 6, false, "", "quota/pool", 48⟩, ⟨"ended", 4, 7, false, "", "quota/pool", 56⟩]⟩) := Go.Proofs.Try.underlying92
theorem u_pool_frame : prog.underlying t_pool_frame = some (.struct ⟨[⟨"state", 96, 0, false, "", "quota/pool", 0⟩, ⟨"pins", 3, 4, false, "", "quota/pool", 64⟩, ⟨"dirty", 4, 5, false, "", "quota/pool", 72⟩, ⟨"since", 3, 6, false, "", "quota/pool", 80⟩, ⟨"used", 3, 7, false, "", "quota/pool", 88⟩]⟩) := Go.Proofs.Try.underlying98
theorem u_slices_sortedHint : prog.underlying t_slices_sortedHint = some (.int .i64) := Go.Proofs.Try.underlying108
theorem u_string : prog.underlying t_string = some .string := Go.Proofs.Try.underlying9
theorem u_page_Page : prog.underlying t_page_Page = some (.struct ⟨[⟨"Number", 3, 0, false, "", "", 0⟩, ⟨"LSN", 3, 1, false, "", "", 8⟩, ⟨"Counters", 93, 2, false, "", "", 16⟩, ⟨"Groups", 94, 3, false, "", "", 40⟩]⟩) := Go.Proofs.Try.underlying96
theorem u_S_api_Counter : prog.underlying t_S_api_Counter = some (.slice 54) := Go.Proofs.Try.underlying93
theorem u_S_api_Group : prog.underlying t_S_api_Group = some (.slice 156) := Go.Proofs.Try.underlying94
theorem u_api_Group : prog.underlying t_api_Group = some (.struct ⟨[⟨"ID", 3, 0, false, "", "", 0⟩, ⟨"Sum", 2, 1, false, "", "", 8⟩]⟩) := Go.Proofs.Try.underlying156
theorem u_P_pool_frame : prog.underlying t_P_pool_frame = some (.pointer 98) := Go.Proofs.Try.underlying85
theorem u_P_sectors_Device : prog.underlying t_P_sectors_Device = some (.pointer 148) := Go.Proofs.Try.underlying86
theorem u_P_log_Log : prog.underlying t_P_log_Log = some (.pointer 154) := Go.Proofs.Try.underlying87
theorem u_api_Shape : prog.underlying t_api_Shape = some (.struct ⟨[⟨"Pages", 3, 0, false, "", "", 0⟩, ⟨"Log", 3, 1, false, "", "", 8⟩, ⟨"Frames", 3, 2, false, "", "", 16⟩]⟩) := Go.Proofs.Try.underlying89
theorem tab_ok : Tab.ok tab prog := findT_ok rows (⟨row3, row24, row62, row56, row26, row40, row4, row50, row23, row54, row44, row48, row59, row118, row2, row29, row60, row103, row117, row122, row81, row90, row115, row65, row67, row68, row52, row5, row83, row92, row98, row108, row9, row96, row93, row94, row156, row85, row86, row87, row89, trivial⟩)
theorem mixed : prog.follows .mixedOrders = true := by kernel_rfl
noncomputable abbrev f_quotalaw16_PointsNames.def : Func := Go.Proofs.Try.f3
theorem f_quotalaw16_PointsNames.fn : prog.funcs[f_quotalaw16_PointsNames]? = some f_quotalaw16_PointsNames.def := Go.Proofs.Try.func3
theorem f_quotalaw16_PointsNames.ok : Callable prog f_quotalaw16_PointsNames := callable_of Go.Proofs.Try.func3 (by kernel_rfl) rfl
def f_quotalaw16_PointsNames.live : Nat → Option (List Nat) := fun i => match i with
  | 0 => some []
  | 1 => some [0]
  | _ => none
theorem f_quotalaw16_PointsNames.does {W : World} {H : HProp} {R : Ending → HProp → Prop} (h : exec prog W tab 8 f_quotalaw16_PointsNames.live (codeOf Go.Proofs.Try.f3) (bodyQ prog W tab [.tmp 0] R) (argFr 0 []) [] H) : Does prog W f_quotalaw16_PointsNames ⟨[]⟩ H R :=
  Does.of_exec tab_ok f_quotalaw16_PointsNames.live Go.Proofs.Try.func3 rfl rfl rfl (by simp) h
noncomputable abbrev f_quotalaw16_PointsExact.def : Func := Go.Proofs.Try.f4
theorem f_quotalaw16_PointsExact.fn : prog.funcs[f_quotalaw16_PointsExact]? = some f_quotalaw16_PointsExact.def := Go.Proofs.Try.func4
theorem f_quotalaw16_PointsExact.ok : Callable prog f_quotalaw16_PointsExact := callable_of Go.Proofs.Try.func4 (by kernel_rfl) rfl
def f_quotalaw16_PointsExact.live : Nat → Option (List Nat) := fun i => match i with
  | 0 => some [1, 2, 3]
  | 1 => some [1, 2, 3, 21]
  | 2 => some [6]
  | 3 => some [1, 2, 3]
  | 4 => some [1, 2, 3, 7]
  | 5 => some [1, 2, 3, 7, 8]
  | 6 => some [1, 2, 58]
  | 7 => some [6]
  | 8 => some [1, 2, 9]
  | 9 => some [1, 2, 9, 60]
  | 10 => some [1, 2, 9]
  | 11 => some [1, 2, 9, 10]
  | 12 => some [1, 2, 9, 10, 11]
  | 13 => some [1, 2, 9, 10, 11, 12]
  | 14 => some [1, 2, 9, 10, 11, 12, 13]
  | 15 => some [1, 2, 9, 10, 11, 12, 13, 14, 15]
  | 16 => some [1, 2, 9, 10, 11, 12, 13, 14, 15, 16, 17]
  | 17 => some [1, 2, 9, 10, 11, 104]
  | 18 => some [6]
  | 19 => some [1, 2, 9, 10, 11, 18]
  | 20 => some [1, 2, 9, 10, 11, 18, 108]
  | 21 => some [1, 2, 9, 10, 11, 18]
  | 22 => some [1, 2, 9, 10, 11, 18]
  | 23 => some [1, 2, 9, 10, 11, 19]
  | 24 => some [1, 2, 9, 10, 11, 19, 121]
  | 25 => some [1, 2, 9, 10, 11, 19]
  | 26 => some [1, 2, 9, 10, 11, 19]
  | 27 => some [1, 2, 9, 10, 11, 14, 15]
  | 28 => some [1, 2, 9, 14, 15, 16, 17]
  | 29 => some [1, 2, 9, 151]
  | 30 => some [6]
  | 31 => some [6]
  | _ => none
theorem f_quotalaw16_PointsExact.does {W : World} {H : HProp} {R : Ending → HProp → Prop} (a0 a1 a2 : Value) (h : exec prog W tab 152 f_quotalaw16_PointsExact.live (codeOf Go.Proofs.Try.f4) (bodyQ prog W tab [.tmp 6] R) (argFr 0 [a0, a1, a2]) [] H) : Does prog W f_quotalaw16_PointsExact ⟨[a0, a1, a2]⟩ H R :=
  Does.of_exec tab_ok f_quotalaw16_PointsExact.live Go.Proofs.Try.func4 rfl rfl rfl (by simp) h
def f_quotalaw16_PointsExact.plan6 : List Nat := [0, 3, 1, 2, 4, 5, 6, 7, 9, 8, 10, 11, 12, 13, 14, 15, 16, 17, 18, 19, 20, 21, 22, 23, 24, 25, 26]
def f_quotalaw16_PointsExact.last6 : List Nat := []
noncomputable abbrev f_quotalaw16_PointsMerge.def : Func := Go.Proofs.Try.f5
theorem f_quotalaw16_PointsMerge.fn : prog.funcs[f_quotalaw16_PointsMerge]? = some f_quotalaw16_PointsMerge.def := Go.Proofs.Try.func5
theorem f_quotalaw16_PointsMerge.ok : Callable prog f_quotalaw16_PointsMerge := callable_of Go.Proofs.Try.func5 (by kernel_rfl) rfl
def f_quotalaw16_PointsMerge.live : Nat → Option (List Nat) := fun i => match i with
  | 0 => some [0, 1, 2]
  | 1 => some [0, 1, 2, 13]
  | 2 => some [6]
  | 3 => some [0, 1, 2]
  | 4 => some [0, 1, 2]
  | 5 => some [0, 1, 2]
  | 6 => some [0, 1, 2, 7]
  | 7 => some [0, 1, 7, 65]
  | 8 => some [6]
  | 9 => some [0, 1, 7, 8]
  | 10 => some [0, 1, 7, 8, 69]
  | 11 => some [0, 1, 7, 8]
  | 12 => some [0, 1, 7, 8, 87]
  | 13 => some [6]
  | 14 => some [0, 1, 7, 9]
  | 15 => some [0, 1, 7, 9, 10]
  | 16 => some [0, 1, 9, 10, 11]
  | 17 => some [1, 9, 10, 11, 97]
  | 18 => some [6]
  | 19 => some [9, 10, 11, 104]
  | 20 => some [6]
  | 21 => some [6]
  | _ => none
theorem f_quotalaw16_PointsMerge.does {W : World} {H : HProp} {R : Ending → HProp → Prop} (a0 a1 a2 : Value) (h : exec prog W tab 116 f_quotalaw16_PointsMerge.live (codeOf Go.Proofs.Try.f5) (bodyQ prog W tab [.tmp 6] R) (argFr 0 [a0, a1, a2]) [] H) : Does prog W f_quotalaw16_PointsMerge ⟨[a0, a1, a2]⟩ H R :=
  Does.of_exec tab_ok f_quotalaw16_PointsMerge.live Go.Proofs.Try.func5 rfl rfl rfl (by simp) h
def f_quotalaw16_PointsMerge.plan12 : List Nat := [0, 1, 2, 3, 4, 5, 6, 7, 8, 9, 10, 11, 12, 13, 14, 15]
def f_quotalaw16_PointsMerge.last12 : List Nat := []
noncomputable abbrev f_quotalaw16_PointsNewMemory.def : Func := Go.Proofs.Try.f6
theorem f_quotalaw16_PointsNewMemory.fn : prog.funcs[f_quotalaw16_PointsNewMemory]? = some f_quotalaw16_PointsNewMemory.def := Go.Proofs.Try.func6
theorem f_quotalaw16_PointsNewMemory.ok : Callable prog f_quotalaw16_PointsNewMemory := callable_of Go.Proofs.Try.func6 (by kernel_rfl) rfl
def f_quotalaw16_PointsNewMemory.live : Nat → Option (List Nat) := fun i => match i with
  | 0 => some [0, 1]
  | 1 => some [0, 1, 17]
  | 2 => some [4]
  | 3 => some [0, 1]
  | 4 => some [0, 1]
  | 5 => some [0, 1, 5]
  | 6 => some [0, 1, 5, 6]
  | 7 => some [0, 1, 5, 6, 7]
  | 8 => some [0, 1, 5, 6, 7, 23]
  | 9 => some [0, 1, 5, 6, 7]
  | 10 => some [0, 1, 5, 6, 7, 8]
  | 11 => some [0, 1, 5, 6, 7, 8, 31]
  | 12 => some [0, 1, 5, 6, 7, 8]
  | 13 => some [0, 1, 5, 6, 7, 8, 36]
  | 14 => some [0, 1, 5, 6, 7, 8]
  | 15 => some [0, 1, 5, 6, 7, 8]
  | 16 => some [0, 1, 5, 6, 7]
  | 17 => some [0, 1, 5, 6, 9]
  | 18 => some [0, 1, 5, 6, 9, 51]
  | 19 => some [0, 1, 5, 6, 9]
  | 20 => some [0, 1, 5, 6, 9, 80]
  | 21 => some [4]
  | 22 => some [0, 1, 5, 6, 10]
  | 23 => some [0, 1, 5, 6, 10, 84]
  | 24 => some [0, 1, 5, 6, 10]
  | 25 => some [0, 1, 5, 6, 10, 11]
  | 26 => some [0, 1, 5, 6, 10, 11, 93]
  | 27 => some [0, 1, 5, 6, 10, 11]
  | 28 => some [0, 1, 5, 6, 10, 11]
  | 29 => some [0, 1, 5, 6, 12]
  | 30 => some [0, 1, 5, 6, 12, 13]
  | 31 => some [0, 1, 5, 6, 12, 13, 110]
  | 32 => some [0, 1, 5, 6, 12, 13]
  | 33 => some [0, 1, 5, 6, 12, 13]
  | 34 => some [0, 1, 5, 6, 12, 14]
  | 35 => some [0, 1, 5, 6, 12, 14, 134]
  | 36 => some [0, 1, 5, 6, 12, 14]
  | 37 => some [0, 1, 5, 6, 12, 14, 15]
  | 38 => some [0, 1, 5, 6, 12, 14, 15, 143]
  | 39 => some [0, 1, 5, 6, 12, 14, 15]
  | 40 => some [0, 1, 5, 6, 12, 14, 15, 184]
  | 41 => some [4]
  | 42 => some [4]
  | _ => none
theorem f_quotalaw16_PointsNewMemory.does {W : World} {H : HProp} {R : Ending → HProp → Prop} (a0 a1 : Value) (h : exec prog W tab 192 f_quotalaw16_PointsNewMemory.live (codeOf Go.Proofs.Try.f6) (bodyQ prog W tab [.tmp 4] R) (argFr 0 [a0, a1]) [] H) : Does prog W f_quotalaw16_PointsNewMemory ⟨[a0, a1]⟩ H R :=
  Does.of_exec tab_ok f_quotalaw16_PointsNewMemory.live Go.Proofs.Try.func6 rfl rfl rfl (by simp) h
def f_quotalaw16_PointsNewMemory.plan20 : List Nat := [0, 1, 2, 3, 4, 5, 6, 7, 8, 9, 10, 11, 12, 13, 14, 15, 16, 17, 18, 19, 20, 21, 22, 23, 24, 25, 26]
def f_quotalaw16_PointsNewMemory.last20 : List Nat := []
def f_quotalaw16_PointsNewMemory.plan33 : List Nat := [0, 1, 2, 3, 4, 5, 6, 7, 8, 9, 10, 11, 12, 13, 14, 15, 16, 17, 18]
def f_quotalaw16_PointsNewMemory.last33 : List Nat := [18]
def f_quotalaw16_PointsNewMemory.plan40 : List Nat := [0, 1, 2, 3, 4, 5, 6, 7, 8, 9, 10, 11, 12, 13, 14, 15, 16, 17, 18, 19, 20, 21, 22, 23, 24, 25, 26, 27, 28, 29, 30, 31, 32, 33, 34, 35, 36, 37, 38]
def f_quotalaw16_PointsNewMemory.last40 : List Nat := []
def f_quotalaw16_PointsNewMemory.plan42 : List Nat := [0, 1, 3, 4, 5, 2, 6, 7]
def f_quotalaw16_PointsNewMemory.last42 : List Nat := [7]
noncomputable abbrev f_quotalaw16_awake.def : Func := Go.Proofs.Try.f7
theorem f_quotalaw16_awake.fn : prog.funcs[f_quotalaw16_awake]? = some f_quotalaw16_awake.def := Go.Proofs.Try.func7
theorem f_quotalaw16_awake.ok : Callable prog f_quotalaw16_awake := callable_of Go.Proofs.Try.func7 (by kernel_rfl) rfl
def f_quotalaw16_awake.live : Nat → Option (List Nat) := fun i => match i with
  | 0 => some []
  | 1 => some [1, 2]
  | 2 => some [1, 2, 4]
  | 3 => some [1, 2, 4, 6]
  | 4 => some [52]
  | 5 => some [0]
  | 6 => some [0]
  | _ => none
theorem f_quotalaw16_awake.does {W : World} {H : HProp} {R : Ending → HProp → Prop} (h : exec prog W tab 71 f_quotalaw16_awake.live (codeOf Go.Proofs.Try.f7) (bodyQ prog W tab [.tmp 0] R) (argFr 0 []) [] H) : Does prog W f_quotalaw16_awake ⟨[]⟩ H R :=
  Does.of_exec tab_ok f_quotalaw16_awake.live Go.Proofs.Try.func7 rfl rfl rfl (by simp) h
noncomputable abbrev f_quotalaw16_lent.def : Func := Go.Proofs.Try.f8
theorem f_quotalaw16_lent.fn : prog.funcs[f_quotalaw16_lent]? = some f_quotalaw16_lent.def := Go.Proofs.Try.func8
theorem f_quotalaw16_lent.ok : Callable prog f_quotalaw16_lent := callable_of Go.Proofs.Try.func8 (by kernel_rfl) rfl
def f_quotalaw16_lent.live : Nat → Option (List Nat) := fun i => match i with
  | 0 => some [0]
  | 1 => some [0, 5]
  | 2 => some [0]
  | 3 => some [2]
  | _ => none
theorem f_quotalaw16_lent.does {W : World} {H : HProp} {R : Ending → HProp → Prop} (a0 : Value) (h : exec prog W tab 16 f_quotalaw16_lent.live (codeOf Go.Proofs.Try.f8) (bodyQ prog W tab [.tmp 2] R) (argFr 0 [a0]) [] H) : Does prog W f_quotalaw16_lent ⟨[a0]⟩ H R :=
  Does.of_exec tab_ok f_quotalaw16_lent.live Go.Proofs.Try.func8 rfl rfl rfl (by simp) h
noncomputable abbrev f_quotalaw16_num.def : Func := Go.Proofs.Try.f9
theorem f_quotalaw16_num.fn : prog.funcs[f_quotalaw16_num]? = some f_quotalaw16_num.def := Go.Proofs.Try.func9
theorem f_quotalaw16_num.ok : Callable prog f_quotalaw16_num := callable_of Go.Proofs.Try.func9 (by kernel_rfl) rfl
def f_quotalaw16_num.live : Nat → Option (List Nat) := fun i => match i with
  | 0 => some [0]
  | 1 => some [2]
  | _ => none
theorem f_quotalaw16_num.does {W : World} {H : HProp} {R : Ending → HProp → Prop} (a0 : Value) (h : exec prog W tab 4 f_quotalaw16_num.live (codeOf Go.Proofs.Try.f9) (bodyQ prog W tab [.tmp 2] R) (argFr 0 [a0]) [] H) : Does prog W f_quotalaw16_num ⟨[a0]⟩ H R :=
  Does.of_exec tab_ok f_quotalaw16_num.live Go.Proofs.Try.func9 rfl rfl rfl (by simp) h
noncomputable abbrev f_points_Check.def : Func := Go.Proofs.Try.f10
theorem f_points_Check.fn : prog.funcs[f_points_Check]? = some f_points_Check.def := Go.Proofs.Try.func10
theorem f_points_Check.ok : Callable prog f_points_Check := callable_of Go.Proofs.Try.func10 (by kernel_rfl) rfl
def f_points_Check.live : Nat → Option (List Nat) := fun i => match i with
  | 0 => some [1]
  | 1 => some [2]
  | _ => none
theorem f_points_Check.does {W : World} {H : HProp} {R : Ending → HProp → Prop} (a0 : Value) (h : exec prog W tab 6 f_points_Check.live (codeOf Go.Proofs.Try.f10) (bodyQ prog W tab [.tmp 2] R) (argFr 0 [a0]) [] H) : Does prog W f_points_Check ⟨[a0]⟩ H R :=
  Does.of_exec tab_ok f_points_Check.live Go.Proofs.Try.func10 rfl rfl rfl (by simp) h
noncomputable abbrev f_quotaref16_Check.def : Func := Go.Proofs.Try.f11
theorem f_quotaref16_Check.fn : prog.funcs[f_quotaref16_Check]? = some f_quotaref16_Check.def := Go.Proofs.Try.func11
theorem f_quotaref16_Check.ok : Callable prog f_quotaref16_Check := callable_of Go.Proofs.Try.func11 (by kernel_rfl) rfl
def f_quotaref16_Check.live : Nat → Option (List Nat) := fun i => match i with
  | 0 => some [1]
  | 1 => some [2]
  | _ => none
theorem f_quotaref16_Check.does {W : World} {H : HProp} {R : Ending → HProp → Prop} (a0 : Value) (h : exec prog W tab 6 f_quotaref16_Check.live (codeOf Go.Proofs.Try.f11) (bodyQ prog W tab [.tmp 2] R) (argFr 0 [a0]) [] H) : Does prog W f_quotaref16_Check ⟨[a0]⟩ H R :=
  Does.of_exec tab_ok f_quotaref16_Check.live Go.Proofs.Try.func11 rfl rfl rfl (by simp) h
noncomputable abbrev f_points_From.def : Func := Go.Proofs.Try.f12
theorem f_points_From.fn : prog.funcs[f_points_From]? = some f_points_From.def := Go.Proofs.Try.func12
theorem f_points_From.ok : Callable prog f_points_From := callable_of Go.Proofs.Try.func12 (by kernel_rfl) rfl
def f_points_From.live : Nat → Option (List Nat) := fun i => match i with
  | 0 => some [1]
  | 1 => some [1, 3]
  | 2 => some [3, 7, 8, 9]
  | 3 => some [3, 7, 8, 9, 10]
  | 4 => some [3, 4, 5, 7, 8, 9]
  | 5 => some [3, 5, 7, 8, 9, 21]
  | 6 => some [3, 7, 8, 9]
  | 7 => some [3, 7, 8, 9]
  | 8 => some [2]
  | _ => none
theorem f_points_From.does {W : World} {H : HProp} {R : Ending → HProp → Prop} (a0 : Value) (h : exec prog W tab 26 f_points_From.live (codeOf Go.Proofs.Try.f12) (bodyQ prog W tab [.tmp 2] R) (argFr 0 [a0]) [] H) : Does prog W f_points_From ⟨[a0]⟩ H R :=
  Does.of_exec tab_ok f_points_From.live Go.Proofs.Try.func12 rfl rfl rfl (by simp) h
noncomputable abbrev f_quotaref16_From.def : Func := Go.Proofs.Try.f13
theorem f_quotaref16_From.fn : prog.funcs[f_quotaref16_From]? = some f_quotaref16_From.def := Go.Proofs.Try.func13
theorem f_quotaref16_From.ok : Callable prog f_quotaref16_From := callable_of Go.Proofs.Try.func13 (by kernel_rfl) rfl
def f_quotaref16_From.live : Nat → Option (List Nat) := fun i => match i with
  | 0 => some [1]
  | 1 => some [1, 8]
  | 2 => some [2]
  | 3 => some [1, 3]
  | 4 => some [1, 3, 4]
  | 5 => some [1, 3, 4, 18]
  | 6 => some [1, 3, 4]
  | 7 => some [1, 3, 4, 28]
  | 8 => some [1, 3, 4]
  | 9 => some [2]
  | _ => none
theorem f_quotaref16_From.does {W : World} {H : HProp} {R : Ending → HProp → Prop} (a0 : Value) (h : exec prog W tab 36 f_quotaref16_From.live (codeOf Go.Proofs.Try.f13) (bodyQ prog W tab [.tmp 2] R) (argFr 0 [a0]) [] H) : Does prog W f_quotaref16_From ⟨[a0]⟩ H R :=
  Does.of_exec tab_ok f_quotaref16_From.live Go.Proofs.Try.func13 rfl rfl rfl (by simp) h
noncomputable abbrev f_quotalaw16_kept.def : Func := Go.Proofs.Try.f14
theorem f_quotalaw16_kept.fn : prog.funcs[f_quotalaw16_kept]? = some f_quotalaw16_kept.def := Go.Proofs.Try.func14
theorem f_quotalaw16_kept.ok : Callable prog f_quotalaw16_kept := callable_of Go.Proofs.Try.func14 (by kernel_rfl) rfl
def f_quotalaw16_kept.live : Nat → Option (List Nat) := fun i => match i with
  | 0 => some [0, 1]
  | 1 => some [0, 1, 5]
  | 2 => some [0, 1, 5, 6]
  | 3 => some [0, 1, 5, 6, 15]
  | 4 => some [0, 1, 5, 6]
  | 5 => some [0, 1, 5, 6, 26]
  | 6 => some [4]
  | 7 => some [4]
  | _ => none
theorem f_quotalaw16_kept.does {W : World} {H : HProp} {R : Ending → HProp → Prop} (a0 a1 : Value) (h : exec prog W tab 34 f_quotalaw16_kept.live (codeOf Go.Proofs.Try.f14) (bodyQ prog W tab [.tmp 4] R) (argFr 0 [a0, a1]) [] H) : Does prog W f_quotalaw16_kept ⟨[a0, a1]⟩ H R :=
  Does.of_exec tab_ok f_quotalaw16_kept.live Go.Proofs.Try.func14 rfl rfl rfl (by simp) h
def f_quotalaw16_kept.plan5 : List Nat := [0, 1, 2, 3, 4, 5, 6, 7, 8]
def f_quotalaw16_kept.last5 : List Nat := []
noncomputable abbrev f_quotalaw16_sameLive.def : Func := Go.Proofs.Try.f15
theorem f_quotalaw16_sameLive.fn : prog.funcs[f_quotalaw16_sameLive]? = some f_quotalaw16_sameLive.def := Go.Proofs.Try.func15
theorem f_quotalaw16_sameLive.ok : Callable prog f_quotalaw16_sameLive := callable_of Go.Proofs.Try.func15 (by kernel_rfl) rfl
def f_quotalaw16_sameLive.live : Nat → Option (List Nat) := fun i => match i with
  | 0 => some [0, 1]
  | 1 => some [0, 1, 10]
  | 2 => some [4]
  | 3 => some [0, 1, 5]
  | 4 => some [0, 1, 5, 14]
  | 5 => some [0, 1, 5]
  | 6 => some [0, 1, 5, 25]
  | 7 => some [4]
  | 8 => some [4]
  | _ => none
theorem f_quotalaw16_sameLive.does {W : World} {H : HProp} {R : Ending → HProp → Prop} (a0 a1 : Value) (h : exec prog W tab 26 f_quotalaw16_sameLive.live (codeOf Go.Proofs.Try.f15) (bodyQ prog W tab [.tmp 4] R) (argFr 0 [a0, a1]) [] H) : Does prog W f_quotalaw16_sameLive ⟨[a0, a1]⟩ H R :=
  Does.of_exec tab_ok f_quotalaw16_sameLive.live Go.Proofs.Try.func15 rfl rfl rfl (by simp) h
def f_quotalaw16_sameLive.plan6 : List Nat := [0, 1, 2, 3, 4, 5, 6, 7, 8]
def f_quotalaw16_sameLive.last6 : List Nat := []
noncomputable abbrev f_points_Merge.def : Func := Go.Proofs.Try.f16
theorem f_points_Merge.fn : prog.funcs[f_points_Merge]? = some f_points_Merge.def := Go.Proofs.Try.func16
theorem f_points_Merge.ok : Callable prog f_points_Merge := callable_of Go.Proofs.Try.func16 (by kernel_rfl) rfl
def f_points_Merge.live : Nat → Option (List Nat) := fun i => match i with
  | 0 => some [0, 1]
  | 1 => some [0, 1, 6]
  | 2 => some [6, 16, 17, 18]
  | 3 => some [6, 16, 17, 18, 19]
  | 4 => some [6, 8, 16, 17, 18]
  | 5 => some [6, 9, 16, 17, 18]
  | 6 => some [6, 9, 16, 17, 18, 26]
  | 7 => some [9]
  | 8 => some [4, 5]
  | 9 => some [6, 16, 17, 18]
  | 10 => some [6, 10]
  | 11 => some [6, 10, 32, 33, 34]
  | 12 => some [6, 10, 32, 33, 34, 35]
  | 13 => some [6, 10, 12, 32, 33, 34]
  | 14 => some [6, 10, 32, 33, 34]
  | 15 => some [6, 10, 32, 33, 34]
  | 16 => some [4, 5]
  | _ => none
theorem f_points_Merge.does {W : World} {H : HProp} {R : Ending → HProp → Prop} (a0 a1 : Value) (h : exec prog W tab 48 f_points_Merge.live (codeOf Go.Proofs.Try.f16) (bodyQ prog W tab [.tmp 4, .tmp 5] R) (argFr 0 [a0, a1]) [] H) : Does prog W f_points_Merge ⟨[a0, a1]⟩ H R :=
  Does.of_exec tab_ok f_points_Merge.live Go.Proofs.Try.func16 rfl rfl rfl (by simp) h
noncomputable abbrev f_quotaref16_Merge.def : Func := Go.Proofs.Try.f17
theorem f_quotaref16_Merge.fn : prog.funcs[f_quotaref16_Merge]? = some f_quotaref16_Merge.def := Go.Proofs.Try.func17
theorem f_quotaref16_Merge.ok : Callable prog f_quotaref16_Merge := callable_of Go.Proofs.Try.func17 (by kernel_rfl) rfl
def f_quotaref16_Merge.live : Nat → Option (List Nat) := fun i => match i with
  | 0 => some [0, 1]
  | 1 => some [6]
  | 2 => some [6, 7]
  | 3 => some [6, 7, 19]
  | 4 => some [6, 7]
  | 5 => some [6, 7, 35]
  | 6 => some [4, 5]
  | 7 => some [6, 7, 49]
  | 8 => some [4, 5]
  | 9 => some [6, 8]
  | 10 => some [6, 8, 9]
  | 11 => some [6, 8, 9, 51]
  | 12 => some [6, 8, 9]
  | 13 => some [6, 8, 9, 10]
  | 14 => some [6, 8, 9, 10, 11]
  | 15 => some [6, 8, 9, 10, 11, 57]
  | 16 => some [6, 8, 9, 10, 11]
  | 17 => some [6, 8, 9, 10, 11, 79]
  | 18 => some [6, 8, 9, 10, 11]
  | 19 => some [6, 8, 9, 10, 86]
  | 20 => some [6, 8, 9]
  | 21 => some [4, 5]
  | _ => none
theorem f_quotaref16_Merge.does {W : World} {H : HProp} {R : Ending → HProp → Prop} (a0 a1 : Value) (h : exec prog W tab 94 f_quotaref16_Merge.live (codeOf Go.Proofs.Try.f17) (bodyQ prog W tab [.tmp 4, .tmp 5] R) (argFr 0 [a0, a1]) [] H) : Does prog W f_quotaref16_Merge ⟨[a0, a1]⟩ H R :=
  Does.of_exec tab_ok f_quotaref16_Merge.live Go.Proofs.Try.func17 rfl rfl rfl (by simp) h
noncomputable abbrev f_quotalaw16_same.def : Func := Go.Proofs.Try.f18
theorem f_quotalaw16_same.fn : prog.funcs[f_quotalaw16_same]? = some f_quotalaw16_same.def := Go.Proofs.Try.func18
theorem f_quotalaw16_same.ok : Callable prog f_quotalaw16_same := callable_of Go.Proofs.Try.func18 (by kernel_rfl) rfl
def f_quotalaw16_same.live : Nat → Option (List Nat) := fun i => match i with
  | 0 => some [0, 1]
  | 1 => some [0, 1, 10]
  | 2 => some [4]
  | 3 => some [0, 1, 5]
  | 4 => some [0, 1, 5, 14]
  | 5 => some [0, 1, 5]
  | 6 => some [0, 1, 5, 25]
  | 7 => some [4]
  | 8 => some [4]
  | _ => none
theorem f_quotalaw16_same.does {W : World} {H : HProp} {R : Ending → HProp → Prop} (a0 a1 : Value) (h : exec prog W tab 26 f_quotalaw16_same.live (codeOf Go.Proofs.Try.f18) (bodyQ prog W tab [.tmp 4] R) (argFr 0 [a0, a1]) [] H) : Does prog W f_quotalaw16_same ⟨[a0, a1]⟩ H R :=
  Does.of_exec tab_ok f_quotalaw16_same.live Go.Proofs.Try.func18 rfl rfl rfl (by simp) h
def f_quotalaw16_same.plan6 : List Nat := [0, 1, 2, 3, 4, 5, 6, 7, 8]
def f_quotalaw16_same.last6 : List Nat := []
noncomputable abbrev f_quotalaw16_brought.def : Func := Go.Proofs.Try.f19
theorem f_quotalaw16_brought.fn : prog.funcs[f_quotalaw16_brought]? = some f_quotalaw16_brought.def := Go.Proofs.Try.func19
theorem f_quotalaw16_brought.ok : Callable prog f_quotalaw16_brought := callable_of Go.Proofs.Try.func19 (by kernel_rfl) rfl
def f_quotalaw16_brought.live : Nat → Option (List Nat) := fun i => match i with
  | 0 => some [0, 1]
  | 1 => some [0, 1]
  | 2 => some [0, 1, 9]
  | 3 => some [4]
  | 4 => some [4]
  | _ => none
theorem f_quotalaw16_brought.does {W : World} {H : HProp} {R : Ending → HProp → Prop} (a0 a1 : Value) (h : exec prog W tab 14 f_quotalaw16_brought.live (codeOf Go.Proofs.Try.f19) (bodyQ prog W tab [.tmp 4] R) (argFr 0 [a0, a1]) [] H) : Does prog W f_quotalaw16_brought ⟨[a0, a1]⟩ H R :=
  Does.of_exec tab_ok f_quotalaw16_brought.live Go.Proofs.Try.func19 rfl rfl rfl (by simp) h
noncomputable abbrev f_quotalaw16_fit.def : Func := Go.Proofs.Try.f20
theorem f_quotalaw16_fit.fn : prog.funcs[f_quotalaw16_fit]? = some f_quotalaw16_fit.def := Go.Proofs.Try.func20
theorem f_quotalaw16_fit.ok : Callable prog f_quotalaw16_fit := callable_of Go.Proofs.Try.func20 (by kernel_rfl) rfl
def f_quotalaw16_fit.live : Nat → Option (List Nat) := fun i => match i with
  | 0 => some [0]
  | 1 => some [0, 3]
  | 2 => some [0, 3, 4]
  | 3 => some [0, 3, 4, 12]
  | 4 => some [0, 3, 4]
  | 5 => some [0, 3, 4]
  | 6 => some [2]
  | _ => none
theorem f_quotalaw16_fit.does {W : World} {H : HProp} {R : Ending → HProp → Prop} (a0 : Value) (h : exec prog W tab 33 f_quotalaw16_fit.live (codeOf Go.Proofs.Try.f20) (bodyQ prog W tab [.tmp 2] R) (argFr 0 [a0]) [] H) : Does prog W f_quotalaw16_fit ⟨[a0]⟩ H R :=
  Does.of_exec tab_ok f_quotalaw16_fit.live Go.Proofs.Try.func20 rfl rfl rfl (by simp) h
def f_quotalaw16_fit.plan5 : List Nat := [0, 1, 2, 3, 4, 5, 7, 8, 9, 10, 11, 6, 12, 13, 14, 15, 16, 17]
def f_quotalaw16_fit.last5 : List Nat := [17]
noncomputable abbrev f_quotalaw16_merged.def : Func := Go.Proofs.Try.f21
theorem f_quotalaw16_merged.fn : prog.funcs[f_quotalaw16_merged]? = some f_quotalaw16_merged.def := Go.Proofs.Try.func21
theorem f_quotalaw16_merged.ok : Callable prog f_quotalaw16_merged := callable_of Go.Proofs.Try.func21 (by kernel_rfl) rfl
def f_quotalaw16_merged.live : Nat → Option (List Nat) := fun i => match i with
  | 0 => some [0, 1]
  | 1 => some [5, 6]
  | 2 => some [5, 15]
  | 3 => some [4]
  | 4 => some [4]
  | _ => none
theorem f_quotalaw16_merged.does {W : World} {H : HProp} {R : Ending → HProp → Prop} (a0 a1 : Value) (h : exec prog W tab 19 f_quotalaw16_merged.live (codeOf Go.Proofs.Try.f21) (bodyQ prog W tab [.tmp 4] R) (argFr 0 [a0, a1]) [] H) : Does prog W f_quotalaw16_merged ⟨[a0, a1]⟩ H R :=
  Does.of_exec tab_ok f_quotalaw16_merged.live Go.Proofs.Try.func21 rfl rfl rfl (by simp) h
noncomputable abbrev f_points_Take.def : Func := Go.Proofs.Try.f22
theorem f_points_Take.fn : prog.funcs[f_points_Take]? = some f_points_Take.def := Go.Proofs.Try.func22
theorem f_points_Take.ok : Callable prog f_points_Take := callable_of Go.Proofs.Try.func22 (by kernel_rfl) rfl
def f_points_Take.live : Nat → Option (List Nat) := fun i => match i with
  | 0 => some [0, 1, 4]
  | 1 => some [0, 1, 4, 11]
  | 2 => some [4, 5]
  | 3 => some [4, 5]
  | _ => none
theorem f_points_Take.does {W : World} {H : HProp} {R : Ending → HProp → Prop} (a0 a1 : Value) (h : exec prog W tab 20 f_points_Take.live (codeOf Go.Proofs.Try.f22) (bodyQ prog W tab [.cell 4 26, .tmp 5] R) (argFr 0 [a0, a1]) [] H) : Does prog W f_points_Take ⟨[a0, a1]⟩ H R :=
  Does.of_exec tab_ok f_points_Take.live Go.Proofs.Try.func22 rfl rfl rfl (by simp) h
noncomputable abbrev f_record_Check.def : Func := Go.Proofs.Try.f23
theorem f_record_Check.fn : prog.funcs[f_record_Check]? = some f_record_Check.def := Go.Proofs.Try.func23
theorem f_record_Check.ok : Callable prog f_record_Check := callable_of Go.Proofs.Try.func23 (by kernel_rfl) rfl
def f_record_Check.live : Nat → Option (List Nat) := fun i => match i with
  | 0 => some [1]
  | 1 => some [1, 13]
  | 2 => some [2]
  | 3 => some [1, 3]
  | 4 => some [1, 3, 4]
  | 5 => some [1, 3, 4, 19]
  | 6 => some [1, 3, 4, 19, 20]
  | 7 => some [1, 3, 4, 19, 22]
  | 8 => some [1, 3, 4, 19, 24]
  | 9 => some [1, 3, 4, 19, 24]
  | 10 => some [1, 3, 4, 19, 27]
  | 11 => some [1, 3, 4, 19, 27]
  | 12 => some [1, 3, 4, 19, 27]
  | 13 => some [1, 3, 4, 31]
  | 14 => some [1, 3, 4, 5]
  | 15 => some [3, 4]
  | 16 => some [3, 4]
  | 17 => some [3, 4]
  | 18 => some [3, 4]
  | 19 => some [1, 3, 4]
  | 20 => some [1, 3, 4]
  | 21 => some [1, 3, 4]
  | 22 => some [1, 3, 4]
  | 23 => some [3, 4]
  | 24 => some [3, 4]
  | 25 => some [133]
  | 26 => some [2]
  | 27 => some [2]
  | _ => none
theorem f_record_Check.does {W : World} {H : HProp} {R : Ending → HProp → Prop} (a0 : Value) (h : exec prog W tab 134 f_record_Check.live (codeOf Go.Proofs.Try.f23) (bodyQ prog W tab [.tmp 2] R) (argFr 0 [a0]) [] H) : Does prog W f_record_Check ⟨[a0]⟩ H R :=
  Does.of_exec tab_ok f_record_Check.live Go.Proofs.Try.func23 rfl rfl rfl (by simp) h
noncomputable abbrev f_quotaref05_Check.def : Func := Go.Proofs.Try.f24
theorem f_quotaref05_Check.fn : prog.funcs[f_quotaref05_Check]? = some f_quotaref05_Check.def := Go.Proofs.Try.func24
theorem f_quotaref05_Check.ok : Callable prog f_quotaref05_Check := callable_of Go.Proofs.Try.func24 (by kernel_rfl) rfl
def f_quotaref05_Check.live : Nat → Option (List Nat) := fun i => match i with
  | 0 => some [1]
  | 1 => some [1, 10]
  | 2 => some [2]
  | 3 => some [13]
  | 4 => some [2]
  | 5 => some [2]
  | _ => none
theorem f_quotaref05_Check.does {W : World} {H : HProp} {R : Ending → HProp → Prop} (a0 : Value) (h : exec prog W tab 14 f_quotaref05_Check.live (codeOf Go.Proofs.Try.f24) (bodyQ prog W tab [.tmp 2] R) (argFr 0 [a0]) [] H) : Does prog W f_quotaref05_Check ⟨[a0]⟩ H R :=
  Does.of_exec tab_ok f_quotaref05_Check.live Go.Proofs.Try.func24 rfl rfl rfl (by simp) h
noncomputable abbrev f_points_since.def : Func := Go.Proofs.Try.f25
theorem f_points_since.fn : prog.funcs[f_points_since]? = some f_points_since.def := Go.Proofs.Try.func25
theorem f_points_since.ok : Callable prog f_points_since := callable_of Go.Proofs.Try.func25 (by kernel_rfl) rfl
def f_points_since.live : Nat → Option (List Nat) := fun i => match i with
  | 0 => some [0, 1]
  | 1 => some [0, 9, 10, 11]
  | 2 => some [0, 9, 10, 11, 12]
  | 3 => some [0, 6, 9, 10, 11]
  | 4 => some [0, 6, 9, 10, 11, 15]
  | 5 => some [4]
  | 6 => some [0, 6, 9, 10, 11, 24]
  | 7 => some [4]
  | 8 => some [0, 6, 7, 8, 9, 10, 11]
  | 9 => some [0, 6, 9, 10, 11, 47]
  | 10 => some [0, 9, 10, 11]
  | 11 => some [0, 9, 10, 11]
  | 12 => some [4]
  | _ => none
theorem f_points_since.does {W : World} {H : HProp} {R : Ending → HProp → Prop} (a0 a1 : Value) (h : exec prog W tab 54 f_points_since.live (codeOf Go.Proofs.Try.f25) (bodyQ prog W tab [.tmp 4] R) (argFr 0 [a0, a1]) [] H) : Does prog W f_points_since ⟨[a0, a1]⟩ H R :=
  Does.of_exec tab_ok f_points_since.live Go.Proofs.Try.func25 rfl rfl rfl (by simp) h
noncomputable abbrev f_slices_Sorted_int.def : Func := Go.Proofs.Try.f26
theorem f_slices_Sorted_int.fn : prog.funcs[f_slices_Sorted_int]? = some f_slices_Sorted_int.def := Go.Proofs.Try.func26
theorem f_slices_Sorted_int.ok : Callable prog f_slices_Sorted_int := callable_of Go.Proofs.Try.func26 (by kernel_rfl) rfl
def f_slices_Sorted_int.live : Nat → Option (List Nat) := fun i => match i with
  | 0 => some [0]
  | 1 => some [3]
  | 2 => some [3]
  | 3 => some [2]
  | _ => none
theorem f_slices_Sorted_int.does {W : World} {H : HProp} {R : Ending → HProp → Prop} (a0 : Value) (h : exec prog W tab 9 f_slices_Sorted_int.live (codeOf Go.Proofs.Try.f26) (bodyQ prog W tab [.tmp 2] R) (argFr 0 [a0]) [] H) : Does prog W f_slices_Sorted_int ⟨[a0]⟩ H R :=
  Does.of_exec tab_ok f_slices_Sorted_int.live Go.Proofs.Try.func26 rfl rfl rfl (by simp) h
noncomputable abbrev f_maps_Keys_M_int_int_int_int.def : Func := Go.Proofs.Try.f27
theorem f_maps_Keys_M_int_int_int_int.fn : prog.funcs[f_maps_Keys_M_int_int_int_int]? = some f_maps_Keys_M_int_int_int_int.def := Go.Proofs.Try.func27
theorem f_maps_Keys_M_int_int_int_int.ok : Callable prog f_maps_Keys_M_int_int_int_int := callable_of Go.Proofs.Try.func27 (by kernel_rfl) rfl
def f_maps_Keys_M_int_int_int_int.live : Nat → Option (List Nat) := fun i => match i with
  | 0 => some [1]
  | 1 => some [2]
  | _ => none
theorem f_maps_Keys_M_int_int_int_int.does {W : World} {H : HProp} {R : Ending → HProp → Prop} (a0 : Value) (h : exec prog W tab 4 f_maps_Keys_M_int_int_int_int.live (codeOf Go.Proofs.Try.f27) (bodyQ prog W tab [.tmp 2] R) (argFr 0 [a0]) [] H) : Does prog W f_maps_Keys_M_int_int_int_int ⟨[a0]⟩ H R :=
  Does.of_exec tab_ok f_maps_Keys_M_int_int_int_int.live Go.Proofs.Try.func27 rfl rfl rfl (by simp) h
noncomputable abbrev f_txns_Table_Live.def : Func := Go.Proofs.Try.f28
theorem f_txns_Table_Live.fn : prog.funcs[f_txns_Table_Live]? = some f_txns_Table_Live.def := Go.Proofs.Try.func28
theorem f_txns_Table_Live.ok : Callable prog f_txns_Table_Live := callable_of Go.Proofs.Try.func28 (by kernel_rfl) rfl
def f_txns_Table_Live.live : Nat → Option (List Nat) := fun i => match i with
  | 0 => some [0]
  | 1 => some [0, 3]
  | 2 => some [0, 3, 11, 12, 13]
  | 3 => some [0, 3, 11, 12, 13, 14]
  | 4 => some [0, 3, 5, 11, 12, 13]
  | 5 => some [0, 3, 11, 12, 13]
  | 6 => some [0, 3, 11, 12, 13]
  | 7 => some [2]
  | _ => none
theorem f_txns_Table_Live.does {W : World} {H : HProp} {R : Ending → HProp → Prop} (a0 : Value) (h : exec prog W tab 28 f_txns_Table_Live.live (codeOf Go.Proofs.Try.f28) (bodyQ prog W tab [.tmp 2] R) (argFr 0 [a0]) [] H) : Does prog W f_txns_Table_Live ⟨[a0]⟩ H R :=
  Does.of_exec tab_ok f_txns_Table_Live.live Go.Proofs.Try.func28 rfl rfl rfl (by simp) h
noncomputable abbrev f_pool_Pool_Dirty.def : Func := Go.Proofs.Try.f29
theorem f_pool_Pool_Dirty.fn : prog.funcs[f_pool_Pool_Dirty]? = some f_pool_Pool_Dirty.def := Go.Proofs.Try.func29
theorem f_pool_Pool_Dirty.ok : Callable prog f_pool_Pool_Dirty := callable_of Go.Proofs.Try.func29 (by kernel_rfl) rfl
def f_pool_Pool_Dirty.live : Nat → Option (List Nat) := fun i => match i with
  | 0 => some [0]
  | 1 => some [0, 3]
  | 2 => some [0, 3, 8, 9, 10]
  | 3 => some [0, 3, 8, 9, 10, 11]
  | 4 => some [0, 3, 5, 8, 9, 10]
  | 5 => some [0, 3, 5, 6, 8, 9, 10]
  | 6 => some [0, 3, 5, 6, 8, 9, 10, 23]
  | 7 => some [0, 3, 8, 9, 10]
  | 8 => some [0, 3, 8, 9, 10]
  | 9 => some [2]
  | _ => none
theorem f_pool_Pool_Dirty.does {W : World} {H : HProp} {R : Ending → HProp → Prop} (a0 : Value) (h : exec prog W tab 35 f_pool_Pool_Dirty.live (codeOf Go.Proofs.Try.f29) (bodyQ prog W tab [.tmp 2] R) (argFr 0 [a0]) [] H) : Does prog W f_pool_Pool_Dirty ⟨[a0]⟩ H R :=
  Does.of_exec tab_ok f_pool_Pool_Dirty.live Go.Proofs.Try.func29 rfl rfl rfl (by simp) h
noncomputable abbrev f_txns_Table_Next.def : Func := Go.Proofs.Try.f30
theorem f_txns_Table_Next.fn : prog.funcs[f_txns_Table_Next]? = some f_txns_Table_Next.def := Go.Proofs.Try.func30
theorem f_txns_Table_Next.ok : Callable prog f_txns_Table_Next := callable_of Go.Proofs.Try.func30 (by kernel_rfl) rfl
def f_txns_Table_Next.live : Nat → Option (List Nat) := fun i => match i with
  | 0 => some [0]
  | 1 => some [2]
  | _ => none
theorem f_txns_Table_Next.does {W : World} {H : HProp} {R : Ending → HProp → Prop} (a0 : Value) (h : exec prog W tab 7 f_txns_Table_Next.live (codeOf Go.Proofs.Try.f30) (bodyQ prog W tab [.tmp 2] R) (argFr 0 [a0]) [] H) : Does prog W f_txns_Table_Next ⟨[a0]⟩ H R :=
  Does.of_exec tab_ok f_txns_Table_Next.live Go.Proofs.Try.func30 rfl rfl rfl (by simp) h
noncomputable abbrev f_record_in.def : Func := Go.Proofs.Try.f31
theorem f_record_in.fn : prog.funcs[f_record_in]? = some f_record_in.def := Go.Proofs.Try.func31
theorem f_record_in.ok : Callable prog f_record_in := callable_of Go.Proofs.Try.func31 (by kernel_rfl) rfl
def f_record_in.live : Nat → Option (List Nat) := fun i => match i with
  | 0 => some [0, 1, 2]
  | 1 => some [6]
  | _ => none
theorem f_record_in.does {W : World} {H : HProp} {R : Ending → HProp → Prop} (a0 a1 a2 : Value) (h : exec prog W tab 15 f_record_in.live (codeOf Go.Proofs.Try.f31) (bodyQ prog W tab [.tmp 6] R) (argFr 0 [a0, a1, a2]) [] H) : Does prog W f_record_in ⟨[a0, a1, a2]⟩ H R :=
  Does.of_exec tab_ok f_record_in.live Go.Proofs.Try.func31 rfl rfl rfl (by simp) h
noncomputable abbrev f_record_slots.def : Func := Go.Proofs.Try.f32
theorem f_record_slots.fn : prog.funcs[f_record_slots]? = some f_record_slots.def := Go.Proofs.Try.func32
theorem f_record_slots.ok : Callable prog f_record_slots := callable_of Go.Proofs.Try.func32 (by kernel_rfl) rfl
def f_record_slots.live : Nat → Option (List Nat) := fun i => match i with
  | 0 => some [2, 3]
  | 1 => some [4]
  | _ => none
theorem f_record_slots.does {W : World} {H : HProp} {R : Ending → HProp → Prop} (a0 a1 : Value) (h : exec prog W tab 30 f_record_slots.live (codeOf Go.Proofs.Try.f32) (bodyQ prog W tab [.tmp 4] R) (argFr 0 [a0, a1]) [] H) : Does prog W f_record_slots ⟨[a0, a1]⟩ H R :=
  Does.of_exec tab_ok f_record_slots.live Go.Proofs.Try.func32 rfl rfl rfl (by simp) h
noncomputable abbrev f_record_checkpoint.def : Func := Go.Proofs.Try.f33
theorem f_record_checkpoint.fn : prog.funcs[f_record_checkpoint]? = some f_record_checkpoint.def := Go.Proofs.Try.func33
theorem f_record_checkpoint.ok : Callable prog f_record_checkpoint := callable_of Go.Proofs.Try.func33 (by kernel_rfl) rfl
def f_record_checkpoint.live : Nat → Option (List Nat) := fun i => match i with
  | 0 => some [1, 2]
  | 1 => some [1, 2, 26]
  | 2 => some [4]
  | 3 => some [1, 2, 5]
  | 4 => some [1, 2, 5, 28, 29, 30]
  | 5 => some [1, 2, 5, 28, 29, 30, 31]
  | 6 => some [1, 2, 5, 7, 28, 29, 30]
  | 7 => some [1, 2, 7, 28, 29, 30, 65]
  | 8 => some [4]
  | 9 => some [1, 2, 5, 28, 29, 30]
  | 10 => some [1, 2, 5, 28, 29, 30]
  | 11 => some [1, 2, 8]
  | 12 => some [1, 8, 70, 71, 72]
  | 13 => some [1, 8, 70, 71, 72, 73]
  | 14 => some [1, 8, 10, 70, 71, 72]
  | 15 => some [1, 10, 70, 71, 72, 97]
  | 16 => some [4]
  | 17 => some [1, 8, 70, 71, 72]
  | 18 => some [1, 8, 70, 71, 72]
  | 19 => some [4]
  | _ => none
theorem f_record_checkpoint.does {W : World} {H : HProp} {R : Ending → HProp → Prop} (a0 a1 : Value) (h : exec prog W tab 101 f_record_checkpoint.live (codeOf Go.Proofs.Try.f33) (bodyQ prog W tab [.tmp 4] R) (argFr 0 [a0, a1]) [] H) : Does prog W f_record_checkpoint ⟨[a0, a1]⟩ H R :=
  Does.of_exec tab_ok f_record_checkpoint.live Go.Proofs.Try.func33 rfl rfl rfl (by simp) h
noncomputable abbrev f_record_below.def : Func := Go.Proofs.Try.f34
theorem f_record_below.fn : prog.funcs[f_record_below]? = some f_record_below.def := Go.Proofs.Try.func34
theorem f_record_below.ok : Callable prog f_record_below := callable_of Go.Proofs.Try.func34 (by kernel_rfl) rfl
def f_record_below.live : Nat → Option (List Nat) := fun i => match i with
  | 0 => some [0, 1]
  | 1 => some [4]
  | _ => none
theorem f_record_below.does {W : World} {H : HProp} {R : Ending → HProp → Prop} (a0 a1 : Value) (h : exec prog W tab 12 f_record_below.live (codeOf Go.Proofs.Try.f34) (bodyQ prog W tab [.tmp 4] R) (argFr 0 [a0, a1]) [] H) : Does prog W f_record_below ⟨[a0, a1]⟩ H R :=
  Does.of_exec tab_ok f_record_below.live Go.Proofs.Try.func34 rfl rfl rfl (by simp) h
noncomputable abbrev f_record_blank.def : Func := Go.Proofs.Try.f35
theorem f_record_blank.fn : prog.funcs[f_record_blank]? = some f_record_blank.def := Go.Proofs.Try.func35
theorem f_record_blank.ok : Callable prog f_record_blank := callable_of Go.Proofs.Try.func35 (by kernel_rfl) rfl
def f_record_blank.live : Nat → Option (List Nat) := fun i => match i with
  | 0 => some [1]
  | 1 => some [2]
  | _ => none
theorem f_record_blank.does {W : World} {H : HProp} {R : Ending → HProp → Prop} (a0 : Value) (h : exec prog W tab 54 f_record_blank.live (codeOf Go.Proofs.Try.f35) (bodyQ prog W tab [.tmp 2] R) (argFr 0 [a0]) [] H) : Does prog W f_record_blank ⟨[a0]⟩ H R :=
  Does.of_exec tab_ok f_record_blank.live Go.Proofs.Try.func35 rfl rfl rfl (by simp) h
noncomputable abbrev f_quotaref05_fields.def : Func := Go.Proofs.Try.f36
theorem f_quotaref05_fields.fn : prog.funcs[f_quotaref05_fields]? = some f_quotaref05_fields.def := Go.Proofs.Try.func36
theorem f_quotaref05_fields.ok : Callable prog f_quotaref05_fields := callable_of Go.Proofs.Try.func36 (by kernel_rfl) rfl
def f_quotaref05_fields.live : Nat → Option (List Nat) := fun i => match i with
  | 0 => some [1]
  | 1 => some [1, 22]
  | 2 => some [2]
  | 3 => some [1, 3]
  | 4 => some [1, 3, 4]
  | 5 => some [1, 3, 4, 5]
  | 6 => some [1, 3, 4, 5, 6]
  | 7 => some [1, 3, 4, 5, 6, 47]
  | 8 => some [1, 3, 4, 5, 6, 47, 48]
  | 9 => some [2]
  | 10 => some [1, 3, 4, 5, 6, 47, 60]
  | 11 => some [1, 5, 6, 7]
  | 12 => some [2]
  | 13 => some [1, 3, 4, 5, 6, 47, 104]
  | 14 => some [1, 3, 4, 5, 6, 47, 104]
  | 15 => some [2]
  | 16 => some [1, 3, 4, 47, 125]
  | 17 => some [1, 3, 4, 47, 125]
  | 18 => some [1, 3, 4, 125]
  | 19 => some [2]
  | 20 => some [2]
  | _ => none
theorem f_quotaref05_fields.does {W : World} {H : HProp} {R : Ending → HProp → Prop} (a0 : Value) (h : exec prog W tab 156 f_quotaref05_fields.live (codeOf Go.Proofs.Try.f36) (bodyQ prog W tab [.tmp 2] R) (argFr 0 [a0]) [] H) : Does prog W f_quotaref05_fields ⟨[a0]⟩ H R :=
  Does.of_exec tab_ok f_quotaref05_fields.live Go.Proofs.Try.func36 rfl rfl rfl (by simp) h
noncomputable abbrev f_slices_Collect_int.def : Func := Go.Proofs.Try.f37
theorem f_slices_Collect_int.fn : prog.funcs[f_slices_Collect_int]? = some f_slices_Collect_int.def := Go.Proofs.Try.func37
theorem f_slices_Collect_int.ok : Callable prog f_slices_Collect_int := callable_of Go.Proofs.Try.func37 (by kernel_rfl) rfl
def f_slices_Collect_int.live : Nat → Option (List Nat) := fun i => match i with
  | 0 => some [0]
  | 1 => some [2]
  | _ => none
theorem f_slices_Collect_int.does {W : World} {H : HProp} {R : Ending → HProp → Prop} (a0 : Value) (h : exec prog W tab 5 f_slices_Collect_int.live (codeOf Go.Proofs.Try.f37) (bodyQ prog W tab [.tmp 2] R) (argFr 0 [a0]) [] H) : Does prog W f_slices_Collect_int ⟨[a0]⟩ H R :=
  Does.of_exec tab_ok f_slices_Collect_int.live Go.Proofs.Try.func37 rfl rfl rfl (by simp) h
noncomputable abbrev f_slices_Sort_S_int_int.def : Func := Go.Proofs.Try.f38
theorem f_slices_Sort_S_int_int.fn : prog.funcs[f_slices_Sort_S_int_int]? = some f_slices_Sort_S_int_int.def := Go.Proofs.Try.func38
theorem f_slices_Sort_S_int_int.ok : Callable prog f_slices_Sort_S_int_int := callable_of Go.Proofs.Try.func38 (by kernel_rfl) rfl
def f_slices_Sort_S_int_int.live : Nat → Option (List Nat) := fun i => match i with
  | 0 => some [0, 2]
  | 1 => some []
  | _ => none
theorem f_slices_Sort_S_int_int.does {W : World} {H : HProp} {R : Ending → HProp → Prop} (a0 : Value) (h : exec prog W tab 11 f_slices_Sort_S_int_int.live (codeOf Go.Proofs.Try.f38) (bodyQ prog W tab [] R) (argFr 0 [a0]) [] H) : Does prog W f_slices_Sort_S_int_int ⟨[a0]⟩ H R :=
  Does.of_exec tab_ok f_slices_Sort_S_int_int.live Go.Proofs.Try.func38 rfl rfl rfl (by simp) h
noncomputable abbrev f_maps_Keys_M_int_int_int_int_1.def : Func := Go.Proofs.Try.f39
theorem f_maps_Keys_M_int_int_int_int_1.fn : prog.funcs[f_maps_Keys_M_int_int_int_int_1]? = some f_maps_Keys_M_int_int_int_int_1.def := Go.Proofs.Try.func39
theorem f_maps_Keys_M_int_int_int_int_1.ok : Callable prog f_maps_Keys_M_int_int_int_int_1 := callable_of Go.Proofs.Try.func39 (by kernel_rfl) rfl
def f_maps_Keys_M_int_int_int_int_1.live : Nat → Option (List Nat) := fun i => match i with
  | 0 => some [0, 5]
  | 1 => some [0, 5, 7]
  | 2 => some [0, 3, 5]
  | 3 => some [0, 5, 13]
  | _ => none
theorem f_maps_Keys_M_int_int_int_int_1.does {W : World} {H : HProp} {R : Ending → HProp → Prop} (a0 a1 : Value) (h : exec prog W tab 14 f_maps_Keys_M_int_int_int_int_1.live (codeOf Go.Proofs.Try.f39) (bodyQ prog W tab [] R) (argFr 0 [a0, a1]) [] H) : Does prog W f_maps_Keys_M_int_int_int_int_1 ⟨[a0, a1]⟩ H R :=
  Does.of_exec tab_ok f_maps_Keys_M_int_int_int_int_1.live Go.Proofs.Try.func39 rfl rfl rfl (by simp) h
noncomputable abbrev f_maps_Keys_M_int_api_Live_int_api_Live.def : Func := Go.Proofs.Try.f40
theorem f_maps_Keys_M_int_api_Live_int_api_Live.fn : prog.funcs[f_maps_Keys_M_int_api_Live_int_api_Live]? = some f_maps_Keys_M_int_api_Live_int_api_Live.def := Go.Proofs.Try.func40
theorem f_maps_Keys_M_int_api_Live_int_api_Live.ok : Callable prog f_maps_Keys_M_int_api_Live_int_api_Live := callable_of Go.Proofs.Try.func40 (by kernel_rfl) rfl
def f_maps_Keys_M_int_api_Live_int_api_Live.live : Nat → Option (List Nat) := fun i => match i with
  | 0 => some [1]
  | 1 => some [2]
  | _ => none
theorem f_maps_Keys_M_int_api_Live_int_api_Live.does {W : World} {H : HProp} {R : Ending → HProp → Prop} (a0 : Value) (h : exec prog W tab 4 f_maps_Keys_M_int_api_Live_int_api_Live.live (codeOf Go.Proofs.Try.f40) (bodyQ prog W tab [.tmp 2] R) (argFr 0 [a0]) [] H) : Does prog W f_maps_Keys_M_int_api_Live_int_api_Live ⟨[a0]⟩ H R :=
  Does.of_exec tab_ok f_maps_Keys_M_int_api_Live_int_api_Live.live Go.Proofs.Try.func40 rfl rfl rfl (by simp) h
noncomputable abbrev f_pool_Pool_Held.def : Func := Go.Proofs.Try.f41
theorem f_pool_Pool_Held.fn : prog.funcs[f_pool_Pool_Held]? = some f_pool_Pool_Held.def := Go.Proofs.Try.func41
theorem f_pool_Pool_Held.ok : Callable prog f_pool_Pool_Held := callable_of Go.Proofs.Try.func41 (by kernel_rfl) rfl
def f_pool_Pool_Held.live : Nat → Option (List Nat) := fun i => match i with
  | 0 => some [0]
  | 1 => some [2]
  | _ => none
theorem f_pool_Pool_Held.does {W : World} {H : HProp} {R : Ending → HProp → Prop} (a0 : Value) (h : exec prog W tab 9 f_pool_Pool_Held.live (codeOf Go.Proofs.Try.f41) (bodyQ prog W tab [.tmp 2] R) (argFr 0 [a0]) [] H) : Does prog W f_pool_Pool_Held ⟨[a0]⟩ H R :=
  Does.of_exec tab_ok f_pool_Pool_Held.live Go.Proofs.Try.func41 rfl rfl rfl (by simp) h
noncomputable abbrev f_quotaref05_within.def : Func := Go.Proofs.Try.f42
theorem f_quotaref05_within.fn : prog.funcs[f_quotaref05_within]? = some f_quotaref05_within.def := Go.Proofs.Try.func42
theorem f_quotaref05_within.ok : Callable prog f_quotaref05_within := callable_of Go.Proofs.Try.func42 (by kernel_rfl) rfl
def f_quotaref05_within.live : Nat → Option (List Nat) := fun i => match i with
  | 0 => some [0, 1, 2]
  | 1 => some [6]
  | _ => none
theorem f_quotaref05_within.does {W : World} {H : HProp} {R : Ending → HProp → Prop} (a0 a1 a2 : Value) (h : exec prog W tab 15 f_quotaref05_within.live (codeOf Go.Proofs.Try.f42) (bodyQ prog W tab [.tmp 6] R) (argFr 0 [a0, a1, a2]) [] H) : Does prog W f_quotaref05_within ⟨[a0, a1, a2]⟩ H R :=
  Does.of_exec tab_ok f_quotaref05_within.live Go.Proofs.Try.func42 rfl rfl rfl (by simp) h
noncomputable abbrev f_quotaref05_none.def : Func := Go.Proofs.Try.f43
theorem f_quotaref05_none.fn : prog.funcs[f_quotaref05_none]? = some f_quotaref05_none.def := Go.Proofs.Try.func43
theorem f_quotaref05_none.ok : Callable prog f_quotaref05_none := callable_of Go.Proofs.Try.func43 (by kernel_rfl) rfl
def f_quotaref05_none.live : Nat → Option (List Nat) := fun i => match i with
  | 0 => some [1]
  | 1 => some [2]
  | _ => none
theorem f_quotaref05_none.does {W : World} {H : HProp} {R : Ending → HProp → Prop} (a0 : Value) (h : exec prog W tab 18 f_quotaref05_none.live (codeOf Go.Proofs.Try.f43) (bodyQ prog W tab [.tmp 2] R) (argFr 0 [a0]) [] H) : Does prog W f_quotaref05_none ⟨[a0]⟩ H R :=
  Does.of_exec tab_ok f_quotaref05_none.live Go.Proofs.Try.func43 rfl rfl rfl (by simp) h
noncomputable abbrev f_quotaref05_apart.def : Func := Go.Proofs.Try.f44
theorem f_quotaref05_apart.fn : prog.funcs[f_quotaref05_apart]? = some f_quotaref05_apart.def := Go.Proofs.Try.func44
theorem f_quotaref05_apart.ok : Callable prog f_quotaref05_apart := callable_of Go.Proofs.Try.func44 (by kernel_rfl) rfl
def f_quotaref05_apart.live : Nat → Option (List Nat) := fun i => match i with
  | 0 => some [1]
  | 1 => some [2]
  | _ => none
theorem f_quotaref05_apart.does {W : World} {H : HProp} {R : Ending → HProp → Prop} (a0 : Value) (h : exec prog W tab 24 f_quotaref05_apart.live (codeOf Go.Proofs.Try.f44) (bodyQ prog W tab [.tmp 2] R) (argFr 0 [a0]) [] H) : Does prog W f_quotaref05_apart ⟨[a0]⟩ H R :=
  Does.of_exec tab_ok f_quotaref05_apart.live Go.Proofs.Try.func44 rfl rfl rfl (by simp) h
noncomputable abbrev f_quotaref05_slots.def : Func := Go.Proofs.Try.f45
theorem f_quotaref05_slots.fn : prog.funcs[f_quotaref05_slots]? = some f_quotaref05_slots.def := Go.Proofs.Try.func45
theorem f_quotaref05_slots.ok : Callable prog f_quotaref05_slots := callable_of Go.Proofs.Try.func45 (by kernel_rfl) rfl
def f_quotaref05_slots.live : Nat → Option (List Nat) := fun i => match i with
  | 0 => some [1]
  | 1 => some [2]
  | _ => none
theorem f_quotaref05_slots.does {W : World} {H : HProp} {R : Ending → HProp → Prop} (a0 : Value) (h : exec prog W tab 34 f_quotaref05_slots.live (codeOf Go.Proofs.Try.f45) (bodyQ prog W tab [.tmp 2] R) (argFr 0 [a0]) [] H) : Does prog W f_quotaref05_slots ⟨[a0]⟩ H R :=
  Does.of_exec tab_ok f_quotaref05_slots.live Go.Proofs.Try.func45 rfl rfl rfl (by simp) h
noncomputable abbrev f_quotaref05_points.def : Func := Go.Proofs.Try.f46
theorem f_quotaref05_points.fn : prog.funcs[f_quotaref05_points]? = some f_quotaref05_points.def := Go.Proofs.Try.func46
theorem f_quotaref05_points.ok : Callable prog f_quotaref05_points := callable_of Go.Proofs.Try.func46 (by kernel_rfl) rfl
def f_quotaref05_points.live : Nat → Option (List Nat) := fun i => match i with
  | 0 => some [1, 2]
  | 1 => some [1, 2, 28]
  | 2 => some [4]
  | 3 => some [1, 2, 5]
  | 4 => some [1, 2, 5, 33]
  | 5 => some [1, 2, 5]
  | 6 => some [1, 2, 5, 47]
  | 7 => some [4]
  | 8 => some [1, 2, 6]
  | 9 => some [1, 2, 6, 52]
  | 10 => some [1, 2, 6]
  | 11 => some [1, 2, 6, 66]
  | 12 => some [4]
  | 13 => some [4]
  | _ => none
theorem f_quotaref05_points.does {W : World} {H : HProp} {R : Ending → HProp → Prop} (a0 a1 : Value) (h : exec prog W tab 67 f_quotaref05_points.live (codeOf Go.Proofs.Try.f46) (bodyQ prog W tab [.tmp 4] R) (argFr 0 [a0, a1]) [] H) : Does prog W f_quotaref05_points ⟨[a0, a1]⟩ H R :=
  Does.of_exec tab_ok f_quotaref05_points.live Go.Proofs.Try.func46 rfl rfl rfl (by simp) h
noncomputable abbrev f_slices_AppendSeq_S_int_int.def : Func := Go.Proofs.Try.f47
theorem f_slices_AppendSeq_S_int_int.fn : prog.funcs[f_slices_AppendSeq_S_int_int]? = some f_slices_AppendSeq_S_int_int.def := Go.Proofs.Try.func47
theorem f_slices_AppendSeq_S_int_int.ok : Callable prog f_slices_AppendSeq_S_int_int := callable_of Go.Proofs.Try.func47 (by kernel_rfl) rfl
def f_slices_AppendSeq_S_int_int.live : Nat → Option (List Nat) := fun i => match i with
  | 0 => some [1, 2, 5, 7]
  | 1 => some [2, 5, 6, 7]
  | 2 => some [2]
  | 3 => some [2]
  | 4 => some [4]
  | _ => none
theorem f_slices_AppendSeq_S_int_int.does {W : World} {H : HProp} {R : Ending → HProp → Prop} (a0 a1 : Value) (h : exec prog W tab 13 f_slices_AppendSeq_S_int_int.live (codeOf Go.Proofs.Try.f47) (bodyQ prog W tab [.tmp 4] R) (argFr 0 [a0, a1]) [] H) : Does prog W f_slices_AppendSeq_S_int_int ⟨[a0, a1]⟩ H R :=
  Does.of_exec tab_ok f_slices_AppendSeq_S_int_int.live Go.Proofs.Try.func47 rfl rfl rfl (by simp) h
noncomputable abbrev f_slices_pdqsortOrdered_int.def : Func := Go.Proofs.Try.f48
theorem f_slices_pdqsortOrdered_int.fn : prog.funcs[f_slices_pdqsortOrdered_int]? = some f_slices_pdqsortOrdered_int.def := Go.Proofs.Try.func48
theorem f_slices_pdqsortOrdered_int.ok : Callable prog f_slices_pdqsortOrdered_int := callable_of Go.Proofs.Try.func48 (by kernel_rfl) rfl
def f_slices_pdqsortOrdered_int.live : Nat → Option (List Nat) := fun i => match i with
  | 0 => some [0, 1, 2, 3, 8]
  | 1 => some [0, 1, 2, 3, 8, 9]
  | 2 => some [0, 1, 2, 3, 8, 9, 10]
  | 3 => some [0, 1, 2, 3, 8, 9, 10, 23]
  | 4 => some []
  | 5 => some [0, 1, 2, 3, 8, 9, 10, 29]
  | 6 => some []
  | 7 => some [0, 1, 2, 3, 8, 9, 10, 35]
  | 8 => some [0, 1, 2, 3, 8, 9, 10]
  | 9 => some [0, 1, 2, 3, 8, 9, 10]
  | 10 => some [0, 1, 2, 3, 8, 9, 10, 11, 12]
  | 11 => some [0, 1, 2, 3, 8, 9, 10, 11, 12, 50]
  | 12 => some [0, 1, 2, 3, 8, 9, 10, 11]
  | 13 => some [0, 1, 2, 3, 8, 9, 10, 11]
  | 14 => some [0, 1, 2, 3, 8, 9, 10, 11, 12]
  | 15 => some [0, 1, 2, 3, 8, 9, 10, 11, 68]
  | 16 => some [0, 1, 2, 3, 8, 9, 10, 11, 72]
  | 17 => some [0, 1, 2, 3, 8, 9, 10, 11, 87]
  | 18 => some [0, 2, 3, 8, 9, 13]
  | 19 => some [0, 1, 2, 3, 8, 9]
  | 20 => some [0, 1, 2, 3, 10, 14, 15]
  | 21 => some [0, 1, 2, 3, 9, 10, 14]
  | 22 => some [0, 1, 2, 3, 9, 10, 14, 16, 17]
  | 23 => some [0, 1, 2, 3, 9, 14, 16, 17, 18]
  | 24 => some [0, 1, 2, 3, 9, 14, 16, 17, 18, 113]
  | 25 => some [0, 1, 2, 3, 8, 9, 14]
  | 26 => some [0, 2, 3, 8, 9, 14]
  | 27 => some [0, 1, 2, 3, 8, 9]
  | 28 => some [0, 1, 2, 3, 8, 9, 14]
  | 29 => some [0, 1, 3, 8, 9, 14]
  | 30 => some [0, 1, 2, 3, 8, 9]
  | _ => none
theorem f_slices_pdqsortOrdered_int.does {W : World} {H : HProp} {R : Ending → HProp → Prop} (a0 a1 a2 a3 : Value) (h : exec prog W tab 134 f_slices_pdqsortOrdered_int.live (codeOf Go.Proofs.Try.f48) (bodyQ prog W tab [] R) (argFr 0 [a0, a1, a2, a3]) [] H) : Does prog W f_slices_pdqsortOrdered_int ⟨[a0, a1, a2, a3]⟩ H R :=
  Does.of_exec tab_ok f_slices_pdqsortOrdered_int.live Go.Proofs.Try.func48 rfl rfl rfl (by simp) h
def f_slices_pdqsortOrdered_int.plan17 : List Nat := [0, 1, 2, 3, 4, 5, 6, 7, 8, 9, 10, 11, 12, 13, 14]
def f_slices_pdqsortOrdered_int.last17 : List Nat := []
noncomputable abbrev f_math_bits_Len.def : Func := Go.Proofs.Try.f49
theorem f_math_bits_Len.fn : prog.funcs[f_math_bits_Len]? = some f_math_bits_Len.def := Go.Proofs.Try.func49
theorem f_math_bits_Len.ok : Callable prog f_math_bits_Len := callable_of Go.Proofs.Try.func49 (by kernel_rfl) rfl
def f_math_bits_Len.live : Nat → Option (List Nat) := fun i => match i with
  | 0 => some [0]
  | 1 => some [2]
  | 2 => some [2]
  | _ => none
theorem f_math_bits_Len.does {W : World} {H : HProp} {R : Ending → HProp → Prop} (a0 : Value) (h : exec prog W tab 8 f_math_bits_Len.live (codeOf Go.Proofs.Try.f49) (bodyQ prog W tab [.tmp 2] R) (argFr 0 [a0]) [] H) : Does prog W f_math_bits_Len ⟨[a0]⟩ H R :=
  Does.of_exec tab_ok f_math_bits_Len.live Go.Proofs.Try.func49 rfl rfl rfl (by simp) h
noncomputable abbrev f_maps_Keys_M_int_api_Live_int_api_Live_1.def : Func := Go.Proofs.Try.f50
theorem f_maps_Keys_M_int_api_Live_int_api_Live_1.fn : prog.funcs[f_maps_Keys_M_int_api_Live_int_api_Live_1]? = some f_maps_Keys_M_int_api_Live_int_api_Live_1.def := Go.Proofs.Try.func50
theorem f_maps_Keys_M_int_api_Live_int_api_Live_1.ok : Callable prog f_maps_Keys_M_int_api_Live_int_api_Live_1 := callable_of Go.Proofs.Try.func50 (by kernel_rfl) rfl
def f_maps_Keys_M_int_api_Live_int_api_Live_1.live : Nat → Option (List Nat) := fun i => match i with
  | 0 => some [0, 5]
  | 1 => some [0, 5, 7]
  | 2 => some [0, 3, 5]
  | 3 => some [0, 5, 13]
  | _ => none
theorem f_maps_Keys_M_int_api_Live_int_api_Live_1.does {W : World} {H : HProp} {R : Ending → HProp → Prop} (a0 a1 : Value) (h : exec prog W tab 14 f_maps_Keys_M_int_api_Live_int_api_Live_1.live (codeOf Go.Proofs.Try.f50) (bodyQ prog W tab [] R) (argFr 0 [a0, a1]) [] H) : Does prog W f_maps_Keys_M_int_api_Live_int_api_Live_1 ⟨[a0, a1]⟩ H R :=
  Does.of_exec tab_ok f_maps_Keys_M_int_api_Live_int_api_Live_1.live Go.Proofs.Try.func50 rfl rfl rfl (by simp) h
noncomputable abbrev f_maps_Keys_M_int_P_pool_frame_int_P_pool_frame.def : Func := Go.Proofs.Try.f51
theorem f_maps_Keys_M_int_P_pool_frame_int_P_pool_frame.fn : prog.funcs[f_maps_Keys_M_int_P_pool_frame_int_P_pool_frame]? = some f_maps_Keys_M_int_P_pool_frame_int_P_pool_frame.def := Go.Proofs.Try.func51
theorem f_maps_Keys_M_int_P_pool_frame_int_P_pool_frame.ok : Callable prog f_maps_Keys_M_int_P_pool_frame_int_P_pool_frame := callable_of Go.Proofs.Try.func51 (by kernel_rfl) rfl
def f_maps_Keys_M_int_P_pool_frame_int_P_pool_frame.live : Nat → Option (List Nat) := fun i => match i with
  | 0 => some [1]
  | 1 => some [2]
  | _ => none
theorem f_maps_Keys_M_int_P_pool_frame_int_P_pool_frame.does {W : World} {H : HProp} {R : Ending → HProp → Prop} (a0 : Value) (h : exec prog W tab 4 f_maps_Keys_M_int_P_pool_frame_int_P_pool_frame.live (codeOf Go.Proofs.Try.f51) (bodyQ prog W tab [.tmp 2] R) (argFr 0 [a0]) [] H) : Does prog W f_maps_Keys_M_int_P_pool_frame_int_P_pool_frame ⟨[a0]⟩ H R :=
  Does.of_exec tab_ok f_maps_Keys_M_int_P_pool_frame_int_P_pool_frame.live Go.Proofs.Try.func51 rfl rfl rfl (by simp) h
noncomputable abbrev f_quotaref05_Live.def : Func := Go.Proofs.Try.f52
theorem f_quotaref05_Live.fn : prog.funcs[f_quotaref05_Live]? = some f_quotaref05_Live.def := Go.Proofs.Try.func52
theorem f_quotaref05_Live.ok : Callable prog f_quotaref05_Live := callable_of Go.Proofs.Try.func52 (by kernel_rfl) rfl
def f_quotaref05_Live.live : Nat → Option (List Nat) := fun i => match i with
  | 0 => some [0, 1]
  | 1 => some [0, 1, 9]
  | 2 => some [4]
  | 3 => some [0, 1, 5]
  | 4 => some [0, 1, 5, 13]
  | 5 => some [0, 1, 5]
  | 6 => some [0, 1, 5, 6]
  | 7 => some [0, 1, 5, 58]
  | 8 => some [4]
  | 9 => some [4]
  | _ => none
theorem f_quotaref05_Live.does {W : World} {H : HProp} {R : Ending → HProp → Prop} (a0 a1 : Value) (h : exec prog W tab 59 f_quotaref05_Live.live (codeOf Go.Proofs.Try.f52) (bodyQ prog W tab [.tmp 4] R) (argFr 0 [a0, a1]) [] H) : Does prog W f_quotaref05_Live ⟨[a0, a1]⟩ H R :=
  Does.of_exec tab_ok f_quotaref05_Live.live Go.Proofs.Try.func52 rfl rfl rfl (by simp) h
def f_quotaref05_Live.plan7 : List Nat := [0, 1, 2, 3, 4, 5, 6, 7, 8, 9, 10, 11, 12, 13, 14, 15, 16, 17, 18, 19, 20, 21, 22, 23, 24, 25, 26, 27, 28, 29, 30, 31, 32, 33, 34, 35, 36, 37, 38]
def f_quotaref05_Live.last7 : List Nat := []
noncomputable abbrev f_quotaref05_Dirty.def : Func := Go.Proofs.Try.f53
theorem f_quotaref05_Dirty.fn : prog.funcs[f_quotaref05_Dirty]? = some f_quotaref05_Dirty.def := Go.Proofs.Try.func53
theorem f_quotaref05_Dirty.ok : Callable prog f_quotaref05_Dirty := callable_of Go.Proofs.Try.func53 (by kernel_rfl) rfl
def f_quotaref05_Dirty.live : Nat → Option (List Nat) := fun i => match i with
  | 0 => some [0]
  | 1 => some [0, 6]
  | 2 => some [2]
  | 3 => some [0, 3]
  | 4 => some [0, 3, 10]
  | 5 => some [0, 3]
  | 6 => some [0, 3, 46]
  | 7 => some [2]
  | 8 => some [2]
  | _ => none
theorem f_quotaref05_Dirty.does {W : World} {H : HProp} {R : Ending → HProp → Prop} (a0 : Value) (h : exec prog W tab 47 f_quotaref05_Dirty.live (codeOf Go.Proofs.Try.f53) (bodyQ prog W tab [.tmp 2] R) (argFr 0 [a0]) [] H) : Does prog W f_quotaref05_Dirty ⟨[a0]⟩ H R :=
  Does.of_exec tab_ok f_quotaref05_Dirty.live Go.Proofs.Try.func53 rfl rfl rfl (by simp) h
def f_quotaref05_Dirty.plan6 : List Nat := [0, 1, 2, 3, 4, 5, 6, 7, 8, 9, 10, 11, 12, 13, 14, 15, 16, 17, 18, 19, 20, 21, 22, 23, 24, 25, 26, 27, 28, 29, 30, 31, 32, 33]
def f_quotaref05_Dirty.last6 : List Nat := []
noncomputable abbrev f_slices_insertionSortOrdered_int.def : Func := Go.Proofs.Try.f54
theorem f_slices_insertionSortOrdered_int.fn : prog.funcs[f_slices_insertionSortOrdered_int]? = some f_slices_insertionSortOrdered_int.def := Go.Proofs.Try.func54
theorem f_slices_insertionSortOrdered_int.ok : Callable prog f_slices_insertionSortOrdered_int := callable_of Go.Proofs.Try.func54 (by kernel_rfl) rfl
def f_slices_insertionSortOrdered_int.live : Nat → Option (List Nat) := fun i => match i with
  | 0 => some [0, 1, 2, 6]
  | 1 => some [0, 1, 2, 6, 12]
  | 2 => some [0, 1, 2, 6]
  | 3 => some [0, 1, 2, 6, 7]
  | 4 => some [0, 1, 2, 6, 7, 30]
  | 5 => some [0, 1, 2, 6, 7]
  | 6 => some [0, 1, 2, 6, 7]
  | _ => none
theorem f_slices_insertionSortOrdered_int.does {W : World} {H : HProp} {R : Ending → HProp → Prop} (a0 a1 a2 : Value) (h : exec prog W tab 49 f_slices_insertionSortOrdered_int.live (codeOf Go.Proofs.Try.f54) (bodyQ prog W tab [] R) (argFr 0 [a0, a1, a2]) [] H) : Does prog W f_slices_insertionSortOrdered_int ⟨[a0, a1, a2]⟩ H R :=
  Does.of_exec tab_ok f_slices_insertionSortOrdered_int.live Go.Proofs.Try.func54 rfl rfl rfl (by simp) h
def f_slices_insertionSortOrdered_int.plan4 : List Nat := [0, 1, 2, 3, 4, 5, 6, 7, 8, 9, 10, 11, 12, 13, 14]
def f_slices_insertionSortOrdered_int.last4 : List Nat := []
def f_slices_insertionSortOrdered_int.plan6 : List Nat := [0, 1, 2, 3, 4, 5, 6, 7, 8, 9, 10, 11, 12, 13, 14, 15, 16, 17]
def f_slices_insertionSortOrdered_int.last6 : List Nat := [16, 17]
noncomputable abbrev f_slices_heapSortOrdered_int.def : Func := Go.Proofs.Try.f55
theorem f_slices_heapSortOrdered_int.fn : prog.funcs[f_slices_heapSortOrdered_int]? = some f_slices_heapSortOrdered_int.def := Go.Proofs.Try.func55
theorem f_slices_heapSortOrdered_int.ok : Callable prog f_slices_heapSortOrdered_int := callable_of Go.Proofs.Try.func55 (by kernel_rfl) rfl
def f_slices_heapSortOrdered_int.live : Nat → Option (List Nat) := fun i => match i with
  | 0 => some [0, 1, 2, 6]
  | 1 => some [0, 1, 2, 6, 7]
  | 2 => some [0, 6, 7, 8]
  | 3 => some [0, 6, 7, 8, 9]
  | 4 => some [0, 6, 7, 8, 9, 19]
  | 5 => some [0, 6, 7, 8, 9]
  | 6 => some [0, 6, 7, 8, 9]
  | 7 => some [0, 6, 7, 10]
  | 8 => some [0, 6, 7, 10, 30]
  | 9 => some [0, 6, 7, 10]
  | 10 => some [0, 6, 7, 10]
  | 11 => some [0, 6, 7, 10]
  | _ => none
theorem f_slices_heapSortOrdered_int.does {W : World} {H : HProp} {R : Ending → HProp → Prop} (a0 a1 a2 : Value) (h : exec prog W tab 56 f_slices_heapSortOrdered_int.live (codeOf Go.Proofs.Try.f55) (bodyQ prog W tab [] R) (argFr 0 [a0, a1, a2]) [] H) : Does prog W f_slices_heapSortOrdered_int ⟨[a0, a1, a2]⟩ H R :=
  Does.of_exec tab_ok f_slices_heapSortOrdered_int.live Go.Proofs.Try.func55 rfl rfl rfl (by simp) h
def f_slices_heapSortOrdered_int.plan10 : List Nat := [0, 1, 2, 3, 4, 5, 6, 7, 8, 9, 10, 11, 12, 13, 14, 15, 16, 17, 18, 19]
def f_slices_heapSortOrdered_int.last10 : List Nat := [18, 19]
noncomputable abbrev f_slices_breakPatternsOrdered_int.def : Func := Go.Proofs.Try.f56
theorem f_slices_breakPatternsOrdered_int.fn : prog.funcs[f_slices_breakPatternsOrdered_int]? = some f_slices_breakPatternsOrdered_int.def := Go.Proofs.Try.func56
theorem f_slices_breakPatternsOrdered_int.ok : Callable prog f_slices_breakPatternsOrdered_int := callable_of Go.Proofs.Try.func56 (by kernel_rfl) rfl
def f_slices_breakPatternsOrdered_int.live : Nat → Option (List Nat) := fun i => match i with
  | 0 => some [0, 1, 6]
  | 1 => some [0, 1, 6, 15]
  | 2 => some [0, 1, 6, 7]
  | 3 => some [0, 1, 6, 7, 8]
  | 4 => some [0, 1, 6, 7, 8, 9]
  | 5 => some [0, 1, 6, 7, 8, 9, 33]
  | 6 => some [0, 1, 6, 7, 8, 9]
  | 7 => some [0, 1, 6, 7, 8, 9, 10]
  | 8 => some [0, 1, 6, 7, 8, 9, 10, 43]
  | 9 => some [0, 1, 6, 7, 8, 9, 10]
  | 10 => some [0, 1, 6, 7, 8, 9]
  | _ => none
theorem f_slices_breakPatternsOrdered_int.does {W : World} {H : HProp} {R : Ending → HProp → Prop} (a0 a1 a2 : Value) (h : exec prog W tab 65 f_slices_breakPatternsOrdered_int.live (codeOf Go.Proofs.Try.f56) (bodyQ prog W tab [] R) (argFr 0 [a0, a1, a2]) [] H) : Does prog W f_slices_breakPatternsOrdered_int ⟨[a0, a1, a2]⟩ H R :=
  Does.of_exec tab_ok f_slices_breakPatternsOrdered_int.live Go.Proofs.Try.func56 rfl rfl rfl (by simp) h
def f_slices_breakPatternsOrdered_int.plan10 : List Nat := [0, 1, 2, 3, 4, 5, 6, 7, 8, 9, 10, 11, 12, 13, 14, 15, 16, 17, 18, 19]
def f_slices_breakPatternsOrdered_int.last10 : List Nat := [18, 19]
noncomputable abbrev f_slices_choosePivotOrdered_int.def : Func := Go.Proofs.Try.f57
theorem f_slices_choosePivotOrdered_int.fn : prog.funcs[f_slices_choosePivotOrdered_int]? = some f_slices_choosePivotOrdered_int.def := Go.Proofs.Try.func57
theorem f_slices_choosePivotOrdered_int.ok : Callable prog f_slices_choosePivotOrdered_int := callable_of Go.Proofs.Try.func57 (by kernel_rfl) rfl
def f_slices_choosePivotOrdered_int.live : Nat → Option (List Nat) := fun i => match i with
  | 0 => some [0, 1, 2]
  | 1 => some [0, 1, 8]
  | 2 => some [0, 1, 8, 9]
  | 3 => some [0, 1, 8, 9, 10]
  | 4 => some [0, 1, 8, 9, 10, 11]
  | 5 => some [0, 8, 9, 10, 11, 12]
  | 6 => some [0, 8, 9, 10, 11, 12, 32]
  | 7 => some [0, 9, 10, 11, 12, 34]
  | 8 => some [0, 9, 10, 11, 12]
  | 9 => some [0, 9, 10, 11, 12]
  | 10 => some [0, 9, 10, 11, 12]
  | 11 => some [9, 11]
  | 12 => some [11, 49]
  | 13 => some [6, 7]
  | 14 => some [11, 49, 51]
  | 15 => some [6, 7]
  | 16 => some [11, 54]
  | 17 => some [6, 7]
  | _ => none
theorem f_slices_choosePivotOrdered_int.does {W : World} {H : HProp} {R : Ending → HProp → Prop} (a0 a1 a2 : Value) (h : exec prog W tab 57 f_slices_choosePivotOrdered_int.live (codeOf Go.Proofs.Try.f57) (bodyQ prog W tab [.tmp 6, .tmp 7] R) (argFr 0 [a0, a1, a2]) [] H) : Does prog W f_slices_choosePivotOrdered_int ⟨[a0, a1, a2]⟩ H R :=
  Does.of_exec tab_ok f_slices_choosePivotOrdered_int.live Go.Proofs.Try.func57 rfl rfl rfl (by simp) h
noncomputable abbrev f_slices_reverseRangeOrdered_int.def : Func := Go.Proofs.Try.f58
theorem f_slices_reverseRangeOrdered_int.fn : prog.funcs[f_slices_reverseRangeOrdered_int]? = some f_slices_reverseRangeOrdered_int.def := Go.Proofs.Try.func58
theorem f_slices_reverseRangeOrdered_int.ok : Callable prog f_slices_reverseRangeOrdered_int := callable_of Go.Proofs.Try.func58 (by kernel_rfl) rfl
def f_slices_reverseRangeOrdered_int.live : Nat → Option (List Nat) := fun i => match i with
  | 0 => some [0, 2, 6]
  | 1 => some [0, 6, 7]
  | 2 => some [0, 6, 7, 13]
  | 3 => some [0, 6, 7]
  | 4 => some [0, 6, 7]
  | 5 => some [0, 6, 7]
  | _ => none
theorem f_slices_reverseRangeOrdered_int.does {W : World} {H : HProp} {R : Ending → HProp → Prop} (a0 a1 a2 : Value) (h : exec prog W tab 32 f_slices_reverseRangeOrdered_int.live (codeOf Go.Proofs.Try.f58) (bodyQ prog W tab [] R) (argFr 0 [a0, a1, a2]) [] H) : Does prog W f_slices_reverseRangeOrdered_int ⟨[a0, a1, a2]⟩ H R :=
  Does.of_exec tab_ok f_slices_reverseRangeOrdered_int.live Go.Proofs.Try.func58 rfl rfl rfl (by simp) h
def f_slices_reverseRangeOrdered_int.plan3 : List Nat := [0, 1, 2, 3, 4, 5, 6, 7, 8, 9, 10, 11, 12, 13, 14, 15]
def f_slices_reverseRangeOrdered_int.last3 : List Nat := [14, 15]
noncomputable abbrev f_slices_partialInsertionSortOrdered_int.def : Func := Go.Proofs.Try.f59
theorem f_slices_partialInsertionSortOrdered_int.fn : prog.funcs[f_slices_partialInsertionSortOrdered_int]? = some f_slices_partialInsertionSortOrdered_int.def := Go.Proofs.Try.func59
theorem f_slices_partialInsertionSortOrdered_int.ok : Callable prog f_slices_partialInsertionSortOrdered_int := callable_of Go.Proofs.Try.func59 (by kernel_rfl) rfl
def f_slices_partialInsertionSortOrdered_int.live : Nat → Option (List Nat) := fun i => match i with
  | 0 => some [0, 1, 2]
  | 1 => some [0, 1, 2, 7]
  | 2 => some [0, 1, 2, 7, 8]
  | 3 => some [0, 1, 2, 7, 8, 14]
  | 4 => some [0, 1, 2, 7, 8]
  | 5 => some [0, 1, 2, 7, 8, 32]
  | 6 => some [0, 1, 2, 7, 8]
  | 7 => some [0, 1, 2, 7, 8, 37]
  | 8 => some [6]
  | 9 => some [0, 1, 2, 7, 8, 41]
  | 10 => some [6]
  | 11 => some [0, 1, 2, 7, 8]
  | 12 => some [0, 1, 2, 7, 8, 61]
  | 13 => some [0, 1, 2, 7, 8, 9]
  | 14 => some [0, 1, 2, 7, 8, 9, 65]
  | 15 => some [0, 1, 2, 7, 8, 9]
  | 16 => some [0, 1, 2, 7, 8, 9, 78]
  | 17 => some [0, 1, 2, 7, 8, 9]
  | 18 => some [0, 1, 2, 7, 8, 98]
  | 19 => some [0, 1, 2, 7, 8, 10]
  | 20 => some [0, 1, 2, 7, 8, 10, 103]
  | 21 => some [0, 1, 2, 7, 8, 10]
  | 22 => some [0, 1, 2, 7, 8, 10, 116]
  | 23 => some [0, 1, 2, 7, 8, 10]
  | 24 => some [6]
  | _ => none
theorem f_slices_partialInsertionSortOrdered_int.does {W : World} {H : HProp} {R : Ending → HProp → Prop} (a0 a1 a2 : Value) (h : exec prog W tab 133 f_slices_partialInsertionSortOrdered_int.live (codeOf Go.Proofs.Try.f59) (bodyQ prog W tab [.tmp 6] R) (argFr 0 [a0, a1, a2]) [] H) : Does prog W f_slices_partialInsertionSortOrdered_int ⟨[a0, a1, a2]⟩ H R :=
  Does.of_exec tab_ok f_slices_partialInsertionSortOrdered_int.live Go.Proofs.Try.func59 rfl rfl rfl (by simp) h
def f_slices_partialInsertionSortOrdered_int.plan5 : List Nat := [0, 1, 2, 3, 4, 5, 6, 7, 8, 9, 10, 11, 12, 13, 14, 15]
def f_slices_partialInsertionSortOrdered_int.last5 : List Nat := []
def f_slices_partialInsertionSortOrdered_int.plan11 : List Nat := [0, 1, 2, 3, 4, 5, 6, 7, 8, 9, 10, 11, 12, 13, 14, 15, 16, 17]
def f_slices_partialInsertionSortOrdered_int.last11 : List Nat := [16, 17]
def f_slices_partialInsertionSortOrdered_int.plan16 : List Nat := [0, 1, 2, 3, 4, 5, 6, 7, 8, 9, 10]
def f_slices_partialInsertionSortOrdered_int.last16 : List Nat := []
def f_slices_partialInsertionSortOrdered_int.plan17 : List Nat := [0, 1, 2, 3, 4, 5, 6, 7, 8, 9, 10, 11, 12, 13, 14, 15, 16, 17]
def f_slices_partialInsertionSortOrdered_int.last17 : List Nat := [16, 17]
def f_slices_partialInsertionSortOrdered_int.plan22 : List Nat := [0, 1, 2, 3, 4, 5, 6, 7, 8, 9, 10]
def f_slices_partialInsertionSortOrdered_int.last22 : List Nat := []
def f_slices_partialInsertionSortOrdered_int.plan23 : List Nat := [0, 1, 2, 3, 4, 5, 6, 7, 8, 9, 10, 11, 12, 13, 14, 15, 16, 17]
def f_slices_partialInsertionSortOrdered_int.last23 : List Nat := [16, 17]
noncomputable abbrev f_cmp_Less_int.def : Func := Go.Proofs.Try.f60
theorem f_cmp_Less_int.fn : prog.funcs[f_cmp_Less_int]? = some f_cmp_Less_int.def := Go.Proofs.Try.func60
theorem f_cmp_Less_int.ok : Callable prog f_cmp_Less_int := callable_of Go.Proofs.Try.func60 (by kernel_rfl) rfl
def f_cmp_Less_int.live : Nat → Option (List Nat) := fun i => match i with
  | 0 => some [0, 1]
  | 1 => some [4]
  | _ => none
theorem f_cmp_Less_int.does {W : World} {H : HProp} {R : Ending → HProp → Prop} (a0 a1 : Value) (h : exec prog W tab 17 f_cmp_Less_int.live (codeOf Go.Proofs.Try.f60) (bodyQ prog W tab [.tmp 4] R) (argFr 0 [a0, a1]) [] H) : Does prog W f_cmp_Less_int ⟨[a0, a1]⟩ H R :=
  Does.of_exec tab_ok f_cmp_Less_int.live Go.Proofs.Try.func60 rfl rfl rfl (by simp) h
noncomputable abbrev f_slices_partitionEqualOrdered_int.def : Func := Go.Proofs.Try.f61
theorem f_slices_partitionEqualOrdered_int.fn : prog.funcs[f_slices_partitionEqualOrdered_int]? = some f_slices_partitionEqualOrdered_int.def := Go.Proofs.Try.func61
theorem f_slices_partitionEqualOrdered_int.ok : Callable prog f_slices_partitionEqualOrdered_int := callable_of Go.Proofs.Try.func61 (by kernel_rfl) rfl
def f_slices_partitionEqualOrdered_int.live : Nat → Option (List Nat) := fun i => match i with
  | 0 => some [0, 1, 2, 3]
  | 1 => some [0, 1, 2]
  | 2 => some [0, 1, 9, 10]
  | 3 => some [0, 1, 9, 10, 43]
  | 4 => some [0, 1, 9, 10]
  | 5 => some [0, 1, 9, 10, 59]
  | 6 => some [0, 1, 9, 10]
  | 7 => some [0, 1, 9, 10, 64]
  | 8 => some [0, 1, 9, 10]
  | 9 => some [0, 1, 9, 10]
  | 10 => some [0, 1, 9, 10]
  | 11 => some [8]
  | _ => none
theorem f_slices_partitionEqualOrdered_int.does {W : World} {H : HProp} {R : Ending → HProp → Prop} (a0 a1 a2 a3 : Value) (h : exec prog W tab 84 f_slices_partitionEqualOrdered_int.live (codeOf Go.Proofs.Try.f61) (bodyQ prog W tab [.tmp 8] R) (argFr 0 [a0, a1, a2, a3]) [] H) : Does prog W f_slices_partitionEqualOrdered_int ⟨[a0, a1, a2, a3]⟩ H R :=
  Does.of_exec tab_ok f_slices_partitionEqualOrdered_int.live Go.Proofs.Try.func61 rfl rfl rfl (by simp) h
def f_slices_partitionEqualOrdered_int.plan1 : List Nat := [0, 1, 2, 3, 4, 5, 6, 7, 8, 9, 10, 11, 12, 13, 14, 15]
def f_slices_partitionEqualOrdered_int.last1 : List Nat := [14, 15]
def f_slices_partitionEqualOrdered_int.plan3 : List Nat := [0, 1, 2, 3, 4, 5, 6, 7, 8, 9, 10, 11, 12, 13, 14]
def f_slices_partitionEqualOrdered_int.last3 : List Nat := []
def f_slices_partitionEqualOrdered_int.plan5 : List Nat := [0, 1, 2, 3, 4, 5, 6, 7, 8, 9, 10, 11, 12, 13]
def f_slices_partitionEqualOrdered_int.last5 : List Nat := []
def f_slices_partitionEqualOrdered_int.plan8 : List Nat := [0, 1, 2, 3, 4, 5, 6, 7, 8, 9, 10, 11, 12, 13, 14, 15]
def f_slices_partitionEqualOrdered_int.last8 : List Nat := [14, 15]
noncomputable abbrev f_slices_partitionOrdered_int.def : Func := Go.Proofs.Try.f62
theorem f_slices_partitionOrdered_int.fn : prog.funcs[f_slices_partitionOrdered_int]? = some f_slices_partitionOrdered_int.def := Go.Proofs.Try.func62
theorem f_slices_partitionOrdered_int.ok : Callable prog f_slices_partitionOrdered_int := callable_of Go.Proofs.Try.func62 (by kernel_rfl) rfl
def f_slices_partitionOrdered_int.live : Nat → Option (List Nat) := fun i => match i with
  | 0 => some [0, 1, 2, 3]
  | 1 => some [0, 1, 2]
  | 2 => some [0, 1, 10, 11]
  | 3 => some [0, 1, 10, 11, 43]
  | 4 => some [0, 1, 10, 11]
  | 5 => some [0, 1, 10, 11, 60]
  | 6 => some [0, 1, 10, 11]
  | 7 => some [0, 1, 10, 11, 65]
  | 8 => some [11]
  | 9 => some [8, 9]
  | 10 => some [0, 1, 10, 11]
  | 11 => some [0, 1, 10, 11]
  | 12 => some [0, 1, 10, 11]
  | 13 => some [0, 1, 10, 11, 112]
  | 14 => some [0, 1, 10, 11]
  | 15 => some [0, 1, 10, 11, 129]
  | 16 => some [0, 1, 10, 11]
  | 17 => some [0, 1, 10, 11, 134]
  | 18 => some [0, 1, 10, 11]
  | 19 => some [0, 1, 10, 11]
  | 20 => some [0, 1, 10, 11]
  | 21 => some [11]
  | 22 => some [8, 9]
  | _ => none
theorem f_slices_partitionOrdered_int.does {W : World} {H : HProp} {R : Ending → HProp → Prop} (a0 a1 a2 a3 : Value) (h : exec prog W tab 168 f_slices_partitionOrdered_int.live (codeOf Go.Proofs.Try.f62) (bodyQ prog W tab [.tmp 8, .tmp 9] R) (argFr 0 [a0, a1, a2, a3]) [] H) : Does prog W f_slices_partitionOrdered_int ⟨[a0, a1, a2, a3]⟩ H R :=
  Does.of_exec tab_ok f_slices_partitionOrdered_int.live Go.Proofs.Try.func62 rfl rfl rfl (by simp) h
def f_slices_partitionOrdered_int.plan1 : List Nat := [0, 1, 2, 3, 4, 5, 6, 7, 8, 9, 10, 11, 12, 13, 14, 15]
def f_slices_partitionOrdered_int.last1 : List Nat := [14, 15]
def f_slices_partitionOrdered_int.plan3 : List Nat := [0, 1, 2, 3, 4, 5, 6, 7, 8, 9, 10, 11, 12, 13]
def f_slices_partitionOrdered_int.last3 : List Nat := []
def f_slices_partitionOrdered_int.plan5 : List Nat := [0, 1, 2, 3, 4, 5, 6, 7, 8, 9, 10, 11, 12, 13, 14]
def f_slices_partitionOrdered_int.last5 : List Nat := []
def f_slices_partitionOrdered_int.plan8 : List Nat := [0, 1, 2, 3, 4, 5, 6, 7, 8, 9, 10, 11, 12, 13, 14, 15]
def f_slices_partitionOrdered_int.last8 : List Nat := [14, 15]
def f_slices_partitionOrdered_int.plan10 : List Nat := [0, 1, 2, 3, 4, 5, 6, 7, 8, 9, 10, 11, 12, 13, 14, 15]
def f_slices_partitionOrdered_int.last10 : List Nat := [14, 15]
def f_slices_partitionOrdered_int.plan13 : List Nat := [0, 1, 2, 3, 4, 5, 6, 7, 8, 9, 10, 11, 12, 13]
def f_slices_partitionOrdered_int.last13 : List Nat := []
def f_slices_partitionOrdered_int.plan15 : List Nat := [0, 1, 2, 3, 4, 5, 6, 7, 8, 9, 10, 11, 12, 13, 14]
def f_slices_partitionOrdered_int.last15 : List Nat := []
def f_slices_partitionOrdered_int.plan18 : List Nat := [0, 1, 2, 3, 4, 5, 6, 7, 8, 9, 10, 11, 12, 13, 14, 15]
def f_slices_partitionOrdered_int.last18 : List Nat := [14, 15]
def f_slices_partitionOrdered_int.plan21 : List Nat := [0, 1, 2, 3, 4, 5, 6, 7, 8, 9, 10, 11, 12, 13, 14, 15]
def f_slices_partitionOrdered_int.last21 : List Nat := [14, 15]
noncomputable abbrev f_math_bits_Len32.def : Func := Go.Proofs.Try.f63
theorem f_math_bits_Len32.fn : prog.funcs[f_math_bits_Len32]? = some f_math_bits_Len32.def := Go.Proofs.Try.func63
theorem f_math_bits_Len32.ok : Callable prog f_math_bits_Len32 := callable_of Go.Proofs.Try.func63 (by kernel_rfl) rfl
def f_math_bits_Len32.live : Nat → Option (List Nat) := fun i => match i with
  | 0 => some [0, 2]
  | 1 => some [0, 2, 4]
  | 2 => some [0]
  | 3 => some [0, 2]
  | 4 => some [0, 2, 8]
  | 5 => some [0, 2]
  | 6 => some [0, 2]
  | 7 => some [2]
  | _ => none
theorem f_math_bits_Len32.does {W : World} {H : HProp} {R : Ending → HProp → Prop} (a0 : Value) (h : exec prog W tab 19 f_math_bits_Len32.live (codeOf Go.Proofs.Try.f63) (bodyQ prog W tab [.tmp 2] R) (argFr 0 [a0]) [] H) : Does prog W f_math_bits_Len32 ⟨[a0]⟩ H R :=
  Does.of_exec tab_ok f_math_bits_Len32.live Go.Proofs.Try.func63 rfl rfl rfl (by simp) h
noncomputable abbrev f_math_bits_Len64.def : Func := Go.Proofs.Try.f64
theorem f_math_bits_Len64.fn : prog.funcs[f_math_bits_Len64]? = some f_math_bits_Len64.def := Go.Proofs.Try.func64
theorem f_math_bits_Len64.ok : Callable prog f_math_bits_Len64 := callable_of Go.Proofs.Try.func64 (by kernel_rfl) rfl
def f_math_bits_Len64.live : Nat → Option (List Nat) := fun i => match i with
  | 0 => some [0, 2]
  | 1 => some [0, 2, 4]
  | 2 => some [0]
  | 3 => some [0, 2]
  | 4 => some [0, 2, 8]
  | 5 => some [0, 2]
  | 6 => some [0, 2]
  | 7 => some [0, 2, 14]
  | 8 => some [0, 2]
  | 9 => some [0, 2]
  | 10 => some [2]
  | _ => none
theorem f_math_bits_Len64.does {W : World} {H : HProp} {R : Ending → HProp → Prop} (a0 : Value) (h : exec prog W tab 25 f_math_bits_Len64.live (codeOf Go.Proofs.Try.f64) (bodyQ prog W tab [.tmp 2] R) (argFr 0 [a0]) [] H) : Does prog W f_math_bits_Len64 ⟨[a0]⟩ H R :=
  Does.of_exec tab_ok f_math_bits_Len64.live Go.Proofs.Try.func64 rfl rfl rfl (by simp) h
noncomputable abbrev f_maps_Keys_M_int_P_pool_frame_int_P_pool_frame_1.def : Func := Go.Proofs.Try.f65
theorem f_maps_Keys_M_int_P_pool_frame_int_P_pool_frame_1.fn : prog.funcs[f_maps_Keys_M_int_P_pool_frame_int_P_pool_frame_1]? = some f_maps_Keys_M_int_P_pool_frame_int_P_pool_frame_1.def := Go.Proofs.Try.func65
theorem f_maps_Keys_M_int_P_pool_frame_int_P_pool_frame_1.ok : Callable prog f_maps_Keys_M_int_P_pool_frame_int_P_pool_frame_1 := callable_of Go.Proofs.Try.func65 (by kernel_rfl) rfl
def f_maps_Keys_M_int_P_pool_frame_int_P_pool_frame_1.live : Nat → Option (List Nat) := fun i => match i with
  | 0 => some [0, 5]
  | 1 => some [0, 5, 7]
  | 2 => some [0, 3, 5]
  | 3 => some [0, 5, 13]
  | _ => none
theorem f_maps_Keys_M_int_P_pool_frame_int_P_pool_frame_1.does {W : World} {H : HProp} {R : Ending → HProp → Prop} (a0 a1 : Value) (h : exec prog W tab 14 f_maps_Keys_M_int_P_pool_frame_int_P_pool_frame_1.live (codeOf Go.Proofs.Try.f65) (bodyQ prog W tab [] R) (argFr 0 [a0, a1]) [] H) : Does prog W f_maps_Keys_M_int_P_pool_frame_int_P_pool_frame_1 ⟨[a0, a1]⟩ H R :=
  Does.of_exec tab_ok f_maps_Keys_M_int_P_pool_frame_int_P_pool_frame_1.live Go.Proofs.Try.func65 rfl rfl rfl (by simp) h
noncomputable abbrev f_slices_siftDownOrdered_int.def : Func := Go.Proofs.Try.f66
theorem f_slices_siftDownOrdered_int.fn : prog.funcs[f_slices_siftDownOrdered_int]? = some f_slices_siftDownOrdered_int.def := Go.Proofs.Try.func66
theorem f_slices_siftDownOrdered_int.ok : Callable prog f_slices_siftDownOrdered_int := callable_of Go.Proofs.Try.func66 (by kernel_rfl) rfl
def f_slices_siftDownOrdered_int.live : Nat → Option (List Nat) := fun i => match i with
  | 0 => some [0, 2, 3, 8]
  | 1 => some [0, 2, 3, 8, 9]
  | 2 => some [0, 2, 3, 8, 9, 16]
  | 3 => some [0, 2, 3, 8, 9, 36]
  | 4 => some [0, 2, 3, 8, 9]
  | 5 => some [0, 2, 3, 8, 9, 52]
  | 6 => some [0, 2, 3, 9]
  | 7 => some [0, 2, 3, 8]
  | _ => none
theorem f_slices_siftDownOrdered_int.does {W : World} {H : HProp} {R : Ending → HProp → Prop} (a0 a1 a2 a3 : Value) (h : exec prog W tab 76 f_slices_siftDownOrdered_int.live (codeOf Go.Proofs.Try.f66) (bodyQ prog W tab [] R) (argFr 0 [a0, a1, a2, a3]) [] H) : Does prog W f_slices_siftDownOrdered_int ⟨[a0, a1, a2, a3]⟩ H R :=
  Does.of_exec tab_ok f_slices_siftDownOrdered_int.live Go.Proofs.Try.func66 rfl rfl rfl (by simp) h
def f_slices_siftDownOrdered_int.plan3 : List Nat := [0, 1, 2, 3, 4, 5, 6, 7, 8, 9, 10, 11, 12, 13, 14, 15, 16, 17, 18, 19]
def f_slices_siftDownOrdered_int.last3 : List Nat := []
def f_slices_siftDownOrdered_int.plan5 : List Nat := [0, 1, 2, 3, 4, 5, 6, 7, 8, 9, 10, 11, 12, 13]
def f_slices_siftDownOrdered_int.last5 : List Nat := []
def f_slices_siftDownOrdered_int.plan6 : List Nat := [0, 1, 2, 3, 4, 5, 6, 7, 8, 9, 10, 11, 12, 13, 14, 15, 16, 17, 18, 19, 20, 21, 22, 23]
def f_slices_siftDownOrdered_int.last6 : List Nat := [22, 23]
noncomputable abbrev f_slices_nextPowerOfTwo.def : Func := Go.Proofs.Try.f67
theorem f_slices_nextPowerOfTwo.fn : prog.funcs[f_slices_nextPowerOfTwo]? = some f_slices_nextPowerOfTwo.def := Go.Proofs.Try.func67
theorem f_slices_nextPowerOfTwo.ok : Callable prog f_slices_nextPowerOfTwo := callable_of Go.Proofs.Try.func67 (by kernel_rfl) rfl
def f_slices_nextPowerOfTwo.live : Nat → Option (List Nat) := fun i => match i with
  | 0 => some [0]
  | 1 => some [2]
  | _ => none
theorem f_slices_nextPowerOfTwo.does {W : World} {H : HProp} {R : Ending → HProp → Prop} (a0 : Value) (h : exec prog W tab 7 f_slices_nextPowerOfTwo.live (codeOf Go.Proofs.Try.f67) (bodyQ prog W tab [.tmp 2] R) (argFr 0 [a0]) [] H) : Does prog W f_slices_nextPowerOfTwo ⟨[a0]⟩ H R :=
  Does.of_exec tab_ok f_slices_nextPowerOfTwo.live Go.Proofs.Try.func67 rfl rfl rfl (by simp) h
noncomputable abbrev f_slices_xorshift_Next.def : Func := Go.Proofs.Try.f68
theorem f_slices_xorshift_Next.fn : prog.funcs[f_slices_xorshift_Next]? = some f_slices_xorshift_Next.def := Go.Proofs.Try.func68
theorem f_slices_xorshift_Next.ok : Callable prog f_slices_xorshift_Next := callable_of Go.Proofs.Try.func68 (by kernel_rfl) rfl
def f_slices_xorshift_Next.live : Nat → Option (List Nat) := fun i => match i with
  | 0 => some [0]
  | 1 => some [0]
  | 2 => some [0]
  | 3 => some [0]
  | 4 => some [2]
  | _ => none
theorem f_slices_xorshift_Next.does {W : World} {H : HProp} {R : Ending → HProp → Prop} (a0 : Value) (h : exec prog W tab 33 f_slices_xorshift_Next.live (codeOf Go.Proofs.Try.f68) (bodyQ prog W tab [.tmp 2] R) (argFr 0 [a0]) [] H) : Does prog W f_slices_xorshift_Next ⟨[a0]⟩ H R :=
  Does.of_exec tab_ok f_slices_xorshift_Next.live Go.Proofs.Try.func68 rfl rfl rfl (by simp) h
def f_slices_xorshift_Next.plan1 : List Nat := [0, 1, 2, 3, 4, 5, 6, 7, 8, 9]
def f_slices_xorshift_Next.last1 : List Nat := [8, 9]
def f_slices_xorshift_Next.plan2 : List Nat := [0, 1, 2, 3, 4, 5, 6, 7, 8, 9]
def f_slices_xorshift_Next.last2 : List Nat := [8, 9]
def f_slices_xorshift_Next.plan3 : List Nat := [0, 1, 2, 3, 4, 5, 6, 7, 8, 9]
def f_slices_xorshift_Next.last3 : List Nat := [8, 9]
noncomputable abbrev f_slices_medianAdjacentOrdered_int.def : Func := Go.Proofs.Try.f69
theorem f_slices_medianAdjacentOrdered_int.fn : prog.funcs[f_slices_medianAdjacentOrdered_int]? = some f_slices_medianAdjacentOrdered_int.def := Go.Proofs.Try.func69
theorem f_slices_medianAdjacentOrdered_int.ok : Callable prog f_slices_medianAdjacentOrdered_int := callable_of Go.Proofs.Try.func69 (by kernel_rfl) rfl
def f_slices_medianAdjacentOrdered_int.live : Nat → Option (List Nat) := fun i => match i with
  | 0 => some [0, 1, 2]
  | 1 => some [6]
  | _ => none
theorem f_slices_medianAdjacentOrdered_int.does {W : World} {H : HProp} {R : Ending → HProp → Prop} (a0 a1 a2 : Value) (h : exec prog W tab 15 f_slices_medianAdjacentOrdered_int.live (codeOf Go.Proofs.Try.f69) (bodyQ prog W tab [.tmp 6] R) (argFr 0 [a0, a1, a2]) [] H) : Does prog W f_slices_medianAdjacentOrdered_int ⟨[a0, a1, a2]⟩ H R :=
  Does.of_exec tab_ok f_slices_medianAdjacentOrdered_int.live Go.Proofs.Try.func69 rfl rfl rfl (by simp) h
noncomputable abbrev f_slices_medianOrdered_int.def : Func := Go.Proofs.Try.f70
theorem f_slices_medianOrdered_int.fn : prog.funcs[f_slices_medianOrdered_int]? = some f_slices_medianOrdered_int.def := Go.Proofs.Try.func70
theorem f_slices_medianOrdered_int.ok : Callable prog f_slices_medianOrdered_int := callable_of Go.Proofs.Try.func70 (by kernel_rfl) rfl
def f_slices_medianOrdered_int.live : Nat → Option (List Nat) := fun i => match i with
  | 0 => some [0, 1, 2, 3, 4]
  | 1 => some [0, 1, 2, 3, 4]
  | 2 => some [0, 1, 2, 4]
  | 3 => some [2]
  | 4 => some [10]
  | _ => none
theorem f_slices_medianOrdered_int.does {W : World} {H : HProp} {R : Ending → HProp → Prop} (a0 a1 a2 a3 a4 : Value) (h : exec prog W tab 36 f_slices_medianOrdered_int.live (codeOf Go.Proofs.Try.f70) (bodyQ prog W tab [.tmp 10] R) (argFr 0 [a0, a1, a2, a3, a4]) [] H) : Does prog W f_slices_medianOrdered_int ⟨[a0, a1, a2, a3, a4]⟩ H R :=
  Does.of_exec tab_ok f_slices_medianOrdered_int.live Go.Proofs.Try.func70 rfl rfl rfl (by simp) h
noncomputable abbrev f_cmp_isNaN_int.def : Func := Go.Proofs.Try.f71
theorem f_cmp_isNaN_int.fn : prog.funcs[f_cmp_isNaN_int]? = some f_cmp_isNaN_int.def := Go.Proofs.Try.func71
theorem f_cmp_isNaN_int.ok : Callable prog f_cmp_isNaN_int := callable_of Go.Proofs.Try.func71 (by kernel_rfl) rfl
def f_cmp_isNaN_int.live : Nat → Option (List Nat) := fun i => match i with
  | 0 => some [0]
  | 1 => some [2]
  | _ => none
theorem f_cmp_isNaN_int.does {W : World} {H : HProp} {R : Ending → HProp → Prop} (a0 : Value) (h : exec prog W tab 6 f_cmp_isNaN_int.live (codeOf Go.Proofs.Try.f71) (bodyQ prog W tab [.tmp 2] R) (argFr 0 [a0]) [] H) : Does prog W f_cmp_isNaN_int ⟨[a0]⟩ H R :=
  Does.of_exec tab_ok f_cmp_isNaN_int.live Go.Proofs.Try.func71 rfl rfl rfl (by simp) h
noncomputable abbrev f_slices_order2Ordered_int.def : Func := Go.Proofs.Try.f72
theorem f_slices_order2Ordered_int.fn : prog.funcs[f_slices_order2Ordered_int]? = some f_slices_order2Ordered_int.def := Go.Proofs.Try.func72
theorem f_slices_order2Ordered_int.ok : Callable prog f_slices_order2Ordered_int := callable_of Go.Proofs.Try.func72 (by kernel_rfl) rfl
def f_slices_order2Ordered_int.live : Nat → Option (List Nat) := fun i => match i with
  | 0 => some [0, 1, 2, 3]
  | 1 => some [1, 2, 3, 18]
  | 2 => some [1, 2]
  | 3 => some [8, 9]
  | 4 => some [8, 9]
  | _ => none
theorem f_slices_order2Ordered_int.does {W : World} {H : HProp} {R : Ending → HProp → Prop} (a0 a1 a2 a3 : Value) (h : exec prog W tab 28 f_slices_order2Ordered_int.live (codeOf Go.Proofs.Try.f72) (bodyQ prog W tab [.tmp 8, .tmp 9] R) (argFr 0 [a0, a1, a2, a3]) [] H) : Does prog W f_slices_order2Ordered_int ⟨[a0, a1, a2, a3]⟩ H R :=
  Does.of_exec tab_ok f_slices_order2Ordered_int.live Go.Proofs.Try.func72 rfl rfl rfl (by simp) h
def f_slices_order2Ordered_int.plan1 : List Nat := [0, 1, 2, 3, 4, 5, 6, 7, 8]
def f_slices_order2Ordered_int.last1 : List Nat := []
end Go.Proofs.Ytijnojaneheaeaa
