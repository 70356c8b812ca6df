/- The numbers of the functions and types by name, the type table, the live slots, the plans of the regions that draw: written by a program (tools/gen.py). No condition. -/
import Derived.Test.YtacpnjlijjgbmaaGreatDoorProg
import Derived.KernelRfl
import Derived.Test.YtacpnjlijjgbmaaGreatDoorDrawT
namespace Go.Proofs.YtacpnjlijjgbmaaGreatDoor
open Go Go.SL
abbrev f_quotalaw19_UndoLefts : Nat := 3
abbrev f_quotalaw19_UndoOwn : Nat := 4
abbrev f_quotalaw19_first : Nat := 5
abbrev f_quotalaw19_lent : Nat := 6
abbrev f_undo_Left : Nat := 7
abbrev f_quotaref19_Left : Nat := 8
abbrev f_quotalaw19_same : Nat := 9
abbrev f_quotalaw19_kept : Nat := 10
abbrev f_quotalaw19_Life_told : Nat := 11
abbrev f_quotalaw19_Life_wide : Nat := 12
abbrev f_undo_Run : Nat := 13
abbrev f_quotalaw19_is : Nat := 14
abbrev f_interval_Add : Nat := 15
abbrev f_slices_Sorted_int : Nat := 16
abbrev f_maps_Keys_M_int_api_Record_int_api_Record : Nat := 17
abbrev f_quotaref19_at : Nat := 18
abbrev f_quotaref10_Of : Nat := 19
abbrev f_quotaref10_Wide_Plus : Nat := 20
abbrev f_quotaref10_Wide_Fits : Nat := 21
abbrev f_quotaref19_rising : Nat := 22
abbrev f_quotalaw19_plain : Nat := 23
abbrev f_quotaref18_Told : Nat := 24
abbrev f_quotalaw19_Life_shape : Nat := 25
abbrev f_undo_Run_1 : Nat := 26
abbrev f_undo_must : Nat := 27
abbrev f_txns_Table_Get : Nat := 28
abbrev f_undo_records : Nat := 29
abbrev f_undo_run_append : Nat := 30
abbrev f_undo_Run_2 : Nat := 31
abbrev f_apply_Pages : Nat := 32
abbrev f_undo_Run_3 : Nat := 33
abbrev f_pool_Pool_Get : Nat := 34
abbrev f_api_Code : Nat := 35
abbrev f_apply_Do : Nat := 36
abbrev f_pool_Pool_Put : Nat := 37
abbrev f_interval_of : Nat := 38
abbrev f_interval_wide_plus : Nat := 39
abbrev f_interval_wide_number : Nat := 40
abbrev f_slices_Collect_int : Nat := 41
abbrev f_slices_Sort_S_int_int : Nat := 42
abbrev f_maps_Keys_M_int_api_Record_int_api_Record_1 : Nat := 43
abbrev f_quotaref18_Story_does : Nat := 44
abbrev f_quotalaw19_brought : Nat := 45
abbrev f_log_Log_Last : Nat := 46
abbrev f_log_Log_Get : Nat := 47
abbrev f_log_Log_Append : Nat := 48
abbrev f_txns_Table_Note : Nat := 49
abbrev f_apply_changes : Nat := 50
abbrev f_pool_Pool_get : Nat := 51
abbrev f_pool_result : Nat := 52
abbrev f_page_Page_Copy : Nat := 53
abbrev f_errors_As : Nat := 54
abbrev f_interval_Sub : Nat := 55
abbrev f_apply_Do_1 : Nat := 56
abbrev f_apply_counter : Nat := 57
abbrev f_apply_sum : Nat := 58
abbrev f_pool_Pool_put : Nat := 59
abbrev f_slices_AppendSeq_S_int_int : Nat := 61
abbrev f_slices_pdqsortOrdered_int : Nat := 62
abbrev f_math_bits_Len : Nat := 63
abbrev f_quotaref18_brought : Nat := 64
abbrev f_quotaref18_Story_makes : Nat := 65
abbrev f_quotaref18_Story_writes : Nat := 66
abbrev f_quotaref18_Story_leaves : Nat := 67
abbrev f_quotaref18_Story_change : Nat := 68
abbrev f_log_own : Nat := 69
abbrev f_record_Check : Nat := 70
abbrev f_log_Log_Free : Nat := 71
abbrev f_record_Encode : Nat := 72
abbrev f_txns_in : Nat := 73
abbrev f_txns_Table_Begin : Nat := 74
abbrev f_txns_moves : Nat := 75
abbrev f_pool_Pool_place : Nat := 76
abbrev f_pool_Pool_use : Nat := 77
abbrev f_pool_Pool_oldest : Nat := 78
abbrev f_pool_Pool_leave : Nat := 79
abbrev f_master_Home : Nat := 80
abbrev f_twin_Read : Nat := 81
abbrev f_pool_Pool_seen : Nat := 82
abbrev f_page_Decode : Nat := 83
abbrev f_slices_Clone_S_api_Counter_api_Counter : Nat := 84
abbrev f_slices_Clone_S_api_Group_api_Group : Nat := 85
abbrev f_errors_as : Nat := 89
abbrev f_interval_wide_minus : Nat := 90
abbrev f_apply_sum_1 : Nat := 91
abbrev f_page_Encode : Nat := 92
abbrev f_slices_insertionSortOrdered_int : Nat := 93
abbrev f_slices_heapSortOrdered_int : Nat := 94
abbrev f_slices_breakPatternsOrdered_int : Nat := 95
abbrev f_slices_choosePivotOrdered_int : Nat := 96
abbrev f_slices_reverseRangeOrdered_int : Nat := 97
abbrev f_slices_partialInsertionSortOrdered_int : Nat := 98
abbrev f_cmp_Less_int : Nat := 99
abbrev f_slices_partitionEqualOrdered_int : Nat := 100
abbrev f_slices_partitionOrdered_int : Nat := 101
abbrev f_math_bits_Len32 : Nat := 102
abbrev f_math_bits_Len64 : Nat := 103
abbrev f_slices_Clone_S_api_Live_api_Live : Nat := 104
abbrev f_slices_Clone_S_api_Dirty_api_Dirty : Nat := 105
abbrev f_record_in : Nat := 106
abbrev f_record_slots : Nat := 107
abbrev f_record_checkpoint : Nat := 108
abbrev f_record_below : Nat := 109
abbrev f_record_blank : Nat := 110
abbrev f_field_NewWriter : Nat := 111
abbrev f_field_Writer_U : Nat := 112
abbrev f_record_fields : Nat := 113
abbrev f_field_Writer_S : Nat := 114
abbrev f_record_state : Nat := 115
abbrev f_field_Writer_Out : Nat := 116
abbrev f_txns_open : Nat := 117
abbrev f_txns_stays : Nat := 118
abbrev f_txns_undoing : Nat := 119
abbrev f_txns_moves_1 : Nat := 120
abbrev f_txns_moves_2 : Nat := 121
abbrev f_txns_ending : Nat := 122
abbrev f_pool_Pool_write : Nat := 123
abbrev f_master_may : Nat := 124
abbrev f_twin_Read_1 : Nat := 125
abbrev f_twin_told : Nat := 126
abbrev f_twin_running : Nat := 127
abbrev f_twin_need : Nat := 128
abbrev f_twin_there : Nat := 129
abbrev f_twin_get : Nat := 130
abbrev f_page_in : Nat := 131
abbrev f_page_zeros : Nat := 132
abbrev f_page_taken : Nat := 133
abbrev f_field_Get : Nat := 134
abbrev f_page_sum : Nat := 135
abbrev f_page_Page_contents : Nat := 136
abbrev f_page_Page_refused : Nat := 141
abbrev f_page_Page_size : Nat := 142
abbrev f_page_laid : Nat := 143
abbrev f_slices_siftDownOrdered_int : Nat := 144
abbrev f_slices_nextPowerOfTwo : Nat := 145
abbrev f_slices_xorshift_Next : Nat := 146
abbrev f_slices_medianAdjacentOrdered_int : Nat := 147
abbrev f_slices_medianOrdered_int : Nat := 148
abbrev f_cmp_isNaN_int : Nat := 149
abbrev f_slices_Clone_S_byte_byte : Nat := 150
abbrev f_log_Log_Force : Nat := 151
abbrev f_twin_Write : Nat := 152
abbrev f_sectors_Device_Down : Nat := 153
abbrev f_sectors_Device_Sectors : Nat := 154
abbrev f_sectors_Device_Read : Nat := 155
abbrev f_twin_must : Nat := 156
abbrev f_slices_ContainsFunc_S_byte_byte : Nat := 157
abbrev f_page_zeros_1 : Nat := 158
abbrev f_field_place : Nat := 159
abbrev f_field_Sum : Nat := 160
abbrev f_field_Put : Nat := 161
abbrev f_slices_order2Ordered_int : Nat := 162
abbrev f_log_caught : Nat := 163
abbrev f_log_Log_Force_1 : Nat := 164
abbrev f_log_asked : Nat := 165
abbrev f_sectors_Device_Write : Nat := 166
abbrev f_log_laid : Nat := 167
abbrev f_sectors_Device_Sync : Nat := 168
abbrev f_twin_Write_1 : Nat := 169
abbrev f_twin_may : Nat := 170
abbrev f_twin_put : Nat := 171
abbrev f_slices_Backward_S_api_Pending_api_Pending : Nat := 172
abbrev f_bytes_Clone : Nat := 173
abbrev f_sectors_Device_sector : Nat := 174
abbrev f_slices_IndexFunc_S_byte_byte : Nat := 175
abbrev f_log_caught_1 : Nat := 176
abbrev f_sectors_Device_crashes : Nat := 177
abbrev f_sectors_Device_fall : Nat := 178
abbrev f_slices_Backward_S_api_Pending_api_Pending_1 : Nat := 179
abbrev f_sectors_kept : Nat := 180
abbrev f_api_Fault_Unwrap : Nat := 202
abbrev f_math_bits_Add64 : Nat := 60
abbrev f_math_bits_Sub64 : Nat := 140
abbrev t_func : Nat := 1
abbrev t_int64 : Nat := 2
abbrev t_int : Nat := 3
abbrev t_bool : Nat := 4
abbrev t_uint8 : Nat := 5
abbrev t_string : Nat := 9
abbrev t_P_abi_Type : Nat := 17
abbrev t_interface : Nat := 20
abbrev t_S_api_Record : Nat := 22
abbrev t_api_Errno : Nat := 25
abbrev t_api_Shape : Nat := 33
abbrev t_S_quotaref18_Deed : Nat := 34
abbrev t_S_int : Nat := 35
abbrev t_quotalaw19_Life : Nat := 37
abbrev t_S_S_api_Record : Nat := 40
abbrev t_api_Kind : Nat := 41
abbrev t_api_Slot : Nat := 43
abbrev t_api_Range : Nat := 45
abbrev t_api_Counter : Nat := 47
abbrev t_S_api_Live : Nat := 48
abbrev t_S_api_Dirty : Nat := 49
abbrev t_api_Points : Nat := 51
abbrev t_api_Record : Nat := 53
abbrev t_error : Nat := 56
abbrev t_M_int_api_Record : Nat := 60
abbrev t_funcint64_int64_int64_api_Errno : Nat := 63
abbrev t_iter_Seq_int : Nat := 66
abbrev t_quotaref10_Wide : Nat := 70
abbrev t_S_quotaref18_Place : Nat := 73
abbrev t_S_api_Slot : Nat := 74
abbrev t_S_quotaref18_Open : Nat := 75
abbrev t_S_int64 : Nat := 76
abbrev t_quotaref18_Story : Nat := 78
abbrev t_P_quotaref18_Story : Nat := 79
abbrev t_P_log_Log : Nat := 81
abbrev t_P_pool_Pool : Nat := 82
abbrev t_P_txns_Table : Nat := 83
abbrev t_undo_refusal : Nat := 85
abbrev t_P_api_Fault : Nat := 86
abbrev t_api_Fault : Nat := 88
abbrev t_api_Live : Nat := 91
abbrev t_undo_run : Nat := 96
abbrev t_funcint : Nat := 98
abbrev t_S_api_Counter : Nat := 101
abbrev t_S_api_Group : Nat := 102
abbrev t_page_Page : Nat := 104
abbrev t_uint64 : Nat := 111
abbrev t_interval_wide : Nat := 113
abbrev t_uint : Nat := 118
abbrev t_quotaref18_Deed : Nat := 121
abbrev t_M_int_api_Live : Nat := 124
abbrev t_txns_Table : Nat := 126
abbrev t_P_pool_frame : Nat := 134
abbrev t_pool_frame : Nat := 139
abbrev t_P_api_Errno : Nat := 142
abbrev t_funcint64_int64_api_Errno : Nat := 143
abbrev t_P_page_Page : Nat := 145
abbrev t_S_bool : Nat := 154
abbrev t_quotaref18_Open : Nat := 156
abbrev t_P_sectors_Device : Nat := 158
abbrev t_S_S_uint8 : Nat := 159
abbrev t_log_Log : Nat := 161
abbrev t_S_uint8 : Nat := 162
abbrev t_funcapi_Live_bool : Nat := 167
abbrev t_funcapi_Live : Nat := 168
abbrev t_txns_move : Nat := 170
abbrev t_P_api_Live : Nat := 173
abbrev t_M_int_P_pool_frame : Nat := 175
abbrev t_pool_Pool : Nat := 177
abbrev t_api_Group : Nat := 189
abbrev t_unsafe_Pointer : Nat := 190
abbrev t_reflectlite_flag : Nat := 191
abbrev t_reflectlite_Value : Nat := 193
abbrev t_reflectlite_Type : Nat := 196
abbrev t_abi_Kind : Nat := 198
abbrev t_slices_sortedHint : Nat := 204
abbrev t_uint32 : Nat := 212
abbrev t_quotaref18_Place : Nat := 215
abbrev t_api_Dirty : Nat := 219
abbrev t_P_field_Writer : Nat := 223
abbrev t_S_P_int : Nat := 226
abbrev t_S_P_int64 : Nat := 227
abbrev t_P_api_Record : Nat := 230
abbrev t_P_int : Nat := 231
abbrev t_P_int64 : Nat := 232
abbrev t_S_uint64 : Nat := 243
abbrev t_interface_Asinterface_bool : Nat := 255
abbrev t_interface_Unwrap_error : Nat := 258
abbrev t_interface_Unwrap_S_error : Nat := 260
abbrev t_S_error : Nat := 261
abbrev t_slices_xorshift : Nat := 264
abbrev t_field_Writer : Nat := 270
abbrev t_twin_refusal : Nat := 276
abbrev t_funcuint8_bool : Nat := 279
abbrev t_S_api_Pending : Nat := 289
abbrev t_api_Loss : Nat := 291
abbrev t_sectors_Device : Nat := 293
abbrev t_api_Pending : Nat := 298
abbrev t_16_uint32 : Nat := 301
abbrev t_log_refusal : Nat := 303
abbrev g_errors_errorType : Nat := 0
abbrev g_page_headSizes : Nat := 1
abbrev g_page_groupSizes : Nat := 2
abbrev g_page_counterSizes : Nat := 3
abbrev g_field_nibbles : Nat := 4
noncomputable abbrev prog : Program := Go.Proofs.Tryz.prog
def findT : List (Nat × TRow) → Nat → Option TRow
  | [], _ => none
  | (k, r) :: l, t => match Nat.beq k t with
    | true => some r
    | false => findT l t
def rows : List (Nat × TRow) := [
  (3, ⟨(.int .i64), [(.int .i64 0)], false, 1, 8⟩),
  (53, ⟨(.struct ⟨[⟨"LSN", 3, 0, false, "", "", 0⟩, ⟨"Kind", 41, 1, false, "", "", 8⟩, ⟨"Tx", 3, 2, false, "", "", 16⟩, ⟨"Prev", 3, 3, false, "", "", 24⟩, ⟨"Where", 43, 4, false, "", "", 32⟩, ⟨"Sums", 43, 6, false, "", "", 48⟩, ⟨"Delta", 2, 8, false, "", "", 64⟩, ⟨"Counter", 47, 9, false, "", "", 72⟩, ⟨"Points", 51, 14, false, "", "", 112⟩]⟩), [(.int .i64 0), (.int .i64 0), (.int .i64 0), (.int .i64 0), (.int .i64 0), (.int .i64 0), (.int .i64 0), (.int .i64 0), (.int .i64 0), (.int .i64 0), (.int .i64 0), (.int .i64 0), (.int .i64 0), (.int .i64 0), (.slice none 0 0), (.slice none 0 0), (.int .i64 0)], true, 17, 168⟩),
  (35, ⟨(.slice 3), [(.slice none 0 0)], false, 1, 24⟩),
  (104, ⟨(.struct ⟨[⟨"Number", 3, 0, false, "", "", 0⟩, ⟨"LSN", 3, 1, false, "", "", 8⟩, ⟨"Counters", 101, 2, false, "", "", 16⟩, ⟨"Groups", 102, 3, false, "", "", 40⟩]⟩), [(.int .i64 0), (.int .i64 0), (.slice none 0 0), (.slice none 0 0)], true, 4, 64⟩),
  (22, ⟨(.slice 53), [(.slice none 0 0)], false, 1, 24⟩),
  (2, ⟨(.int .i64), [(.int .i64 0)], false, 1, 8⟩),
  (162, ⟨(.slice 5), [(.slice none 0 0)], false, 1, 24⟩),
  (111, ⟨(.int .u64), [(.int .u64 0)], false, 1, 8⟩),
  (4, ⟨.bool, [(.bool false)], false, 1, 1⟩),
  (43, ⟨(.struct ⟨[⟨"Page", 3, 0, false, "", "", 0⟩, ⟨"Index", 3, 1, false, "", "", 8⟩]⟩), [(.int .i64 0), (.int .i64 0)], true, 2, 16⟩),
  (25, ⟨(.int .i64), [(.int .i64 0)], false, 1, 8⟩),
  (47, ⟨(.struct ⟨[⟨"ID", 3, 0, false, "", "", 0⟩, ⟨"Group", 3, 1, false, "", "", 8⟩, ⟨"Bounds", 45, 2, false, "", "", 16⟩, ⟨"Value", 2, 4, false, "", "", 32⟩]⟩), [(.int .i64 0), (.int .i64 0), (.int .i64 0), (.int .i64 0), (.int .i64 0)], true, 5, 40⟩),
  (41, ⟨(.int .i64), [(.int .i64 0)], false, 1, 8⟩),
  (91, ⟨(.struct ⟨[⟨"Tx", 3, 0, false, "", "", 0⟩, ⟨"Last", 3, 1, false, "", "", 8⟩, ⟨"Committed", 4, 2, false, "", "", 16⟩, ⟨"Undoing", 4, 3, false, "", "", 17⟩]⟩), [(.int .i64 0), (.int .i64 0), (.bool false), (.bool false)], true, 4, 24⟩),
  (78, ⟨(.struct ⟨[⟨"Pages", 3, 0, false, "", "", 0⟩, ⟨"R", 22, 1, false, "", "", 8⟩, ⟨"L", 73, 2, false, "", "", 32⟩, ⟨"Groups", 74, 3, false, "", "", 56⟩, ⟨"IDs", 35, 4, false, "", "", 80⟩, ⟨"Live", 75, 5, false, "", "", 104⟩, ⟨"Next", 3, 6, false, "", "", 128⟩, ⟨"Settled", 76, 7, false, "", "", 136⟩]⟩), [(.int .i64 0), (.slice none 0 0), (.slice none 0 0), (.slice none 0 0), (.slice none 0 0), (.slice none 0 0), (.int .i64 0), (.slice none 0 0)], true, 8, 160⟩),
  (56, ⟨(.interface #[("Error", 308)]), [.nilIface], false, 1, 16⟩),
  (102, ⟨(.slice 189), [(.slice none 0 0)], false, 1, 24⟩),
  (101, ⟨(.slice 47), [(.slice none 0 0)], false, 1, 24⟩),
  (75, ⟨(.slice 156), [(.slice none 0 0)], false, 1, 24⟩),
  (158, ⟨(.pointer 293), [(.pointer none)], false, 1, 8⟩),
  (33, ⟨(.struct ⟨[⟨"Pages", 3, 0, false, "", "", 0⟩, ⟨"Log", 3, 1, false, "", "", 8⟩, ⟨"Frames", 3, 2, false, "", "", 16⟩]⟩), [(.int .i64 0), (.int .i64 0), (.int .i64 0)], true, 3, 24⟩),
  (5, ⟨(.int .u8), [(.int .u8 0)], false, 1, 1⟩),
  (51, ⟨(.struct ⟨[⟨"Live", 48, 0, false, "", "", 0⟩, ⟨"Dirty", 49, 1, false, "", "", 24⟩, ⟨"Next", 3, 2, false, "", "", 48⟩]⟩), [(.slice none 0 0), (.slice none 0 0), (.int .i64 0)], true, 3, 56⟩),
  (243, ⟨(.slice 111), [(.slice none 0 0)], false, 1, 24⟩),
  (156, ⟨(.struct ⟨[⟨"Tx", 3, 0, false, "", "", 0⟩, ⟨"Last", 3, 1, false, "", "", 8⟩, ⟨"Committed", 4, 2, false, "", "", 16⟩, ⟨"Nets", 76, 3, false, "", "", 24⟩, ⟨"Holds", 154, 4, false, "", "", 48⟩]⟩), [(.int .i64 0), (.int .i64 0), (.bool false), (.slice none 0 0), (.slice none 0 0)], true, 5, 72⟩),
  (81, ⟨(.pointer 161), [(.pointer none)], false, 1, 8⟩),
  (113, ⟨(.struct ⟨[⟨"high", 2, 0, false, "", "quota/interval", 0⟩, ⟨"low", 111, 1, false, "", "quota/interval", 8⟩]⟩), [(.int .i64 0), (.int .u64 0)], true, 2, 16⟩),
  (161, ⟨(.struct ⟨[⟨"d", 158, 0, false, "", "quota/log", 0⟩, ⟨"first", 3, 1, false, "", "quota/log", 8⟩, ⟨"count", 3, 2, false, "", "quota/log", 16⟩, ⟨"records", 22, 3, false, "", "quota/log", 24⟩, ⟨"bytes", 159, 4, false, "", "quota/log", 48⟩, ⟨"forced", 3, 5, false, "", "quota/log", 72⟩, ⟨"err", 56, 6, false, "", "quota/log", 80⟩]⟩), [(.pointer none), (.int .i64 0), (.int .i64 0), (.slice none 0 0), (.slice none 0 0), (.int .i64 0), .nilIface], true, 7, 96⟩),
  (293, ⟨(.struct ⟨[⟨"image", 162, 0, false, "", "quota/sectors", 0⟩, ⟨"pending", 289, 1, false, "", "quota/sectors", 24⟩, ⟨"step", 3, 2, false, "", "quota/sectors", 48⟩, ⟨"loss", 291, 3, false, "", "quota/sectors", 56⟩, ⟨"down", 4, 6, false, "", "quota/sectors", 96⟩, ⟨"calls", 3, 7, false, "", "quota/sectors", 104⟩]⟩), [(.slice none 0 0), (.slice none 0 0), (.int .i64 0), (.slice none 0 0), (.int .i64 0), (.int .i64 0), (.bool false), (.int .i64 0)], true, 8, 112⟩),
  (48, ⟨(.slice 91), [(.slice none 0 0)], false, 1, 24⟩),
  (49, ⟨(.slice 219), [(.slice none 0 0)], false, 1, 24⟩),
  (40, ⟨(.slice 22), [(.slice none 0 0)], false, 1, 24⟩),
  (177, ⟨(.struct ⟨[⟨"d", 158, 0, false, "", "quota/pool", 0⟩, ⟨"l", 81, 1, false, "", "quota/pool", 8⟩, ⟨"shape", 33, 2, false, "", "quota/pool", 16⟩, ⟨"held", 175, 5, false, "", "quota/pool", 40⟩, ⟨"clock", 3, 6, false, "", "quota/pool", 48⟩, ⟨"ended", 4, 7, false, "", "quota/pool", 56⟩]⟩), [(.pointer none), (.pointer none), (.int .i64 0), (.int .i64 0), (.int .i64 0), (.map none), (.int .i64 0), (.bool false)], true, 8, 64⟩),
  (82, ⟨(.pointer 177), [(.pointer none)], false, 1, 8⟩),
  (212, ⟨(.int .u32), [(.int .u32 0)], false, 1, 4⟩),
  (264, ⟨(.int .u64), [(.int .u64 0)], false, 1, 8⟩),
  (289, ⟨(.slice 298), [(.slice none 0 0)], false, 1, 24⟩),
  (73, ⟨(.slice 215), [(.slice none 0 0)], false, 1, 24⟩),
  (298, ⟨(.struct ⟨[⟨"Sector", 3, 0, false, "", "", 0⟩, ⟨"Bytes", 162, 1, false, "", "", 8⟩]⟩), [(.int .i64 0), (.slice none 0 0)], true, 2, 32⟩),
  (76, ⟨(.slice 2), [(.slice none 0 0)], false, 1, 24⟩),
  (170, ⟨(.struct ⟨[⟨"may", 167, 0, false, "", "quota/txns", 0⟩, ⟨"then", 168, 1, false, "", "quota/txns", 8⟩]⟩), [.nilFunc, .nilFunc], true, 2, 16⟩),
  (175, ⟨(.map 3 134), [(.map none)], false, 1, 8⟩),
  (139, ⟨(.struct ⟨[⟨"state", 104, 0, false, "", "quota/pool", 0⟩, ⟨"pins", 3, 4, false, "", "quota/pool", 64⟩, ⟨"dirty", 4, 5, false, "", "quota/pool", 72⟩, ⟨"since", 3, 6, false, "", "quota/pool", 80⟩, ⟨"used", 3, 7, false, "", "quota/pool", 88⟩]⟩), [(.int .i64 0), (.int .i64 0), (.slice none 0 0), (.slice none 0 0), (.int .i64 0), (.bool false), (.int .i64 0), (.int .i64 0)], true, 8, 96⟩),
  (70, ⟨(.struct ⟨[⟨"H", 2, 0, false, "", "", 0⟩, ⟨"L", 2, 1, false, "", "", 8⟩]⟩), [(.int .i64 0), (.int .i64 0)], true, 2, 16⟩),
  (88, ⟨(.struct ⟨[⟨"Call", 9, 0, false, "", "", 0⟩, ⟨"At", 3, 1, false, "", "", 16⟩, ⟨"Err", 56, 2, false, "", "", 24⟩]⟩), [(.string ⟨#[]⟩), (.int .i64 0), .nilIface], true, 3, 40⟩),
  (20, ⟨(.interface #[]), [.nilIface], false, 1, 16⟩),
  (96, ⟨(.struct ⟨[⟨"log", 81, 0, false, "", "quota/undo", 0⟩, ⟨"table", 83, 1, false, "", "quota/undo", 8⟩, ⟨"tx", 3, 2, false, "", "quota/undo", 16⟩]⟩), [(.pointer none), (.pointer none), (.int .i64 0)], true, 3, 24⟩),
  (193, ⟨(.struct ⟨[⟨"typ_", 17, 0, false, "", "internal/reflectlite", 0⟩, ⟨"ptr", 190, 1, false, "", "internal/reflectlite", 8⟩, ⟨"flag", 191, 2, true, "", "internal/reflectlite", 16⟩]⟩), [(.pointer none), (.pointer none), (.int .u64 0)], true, 3, 24⟩),
  (37, ⟨(.struct ⟨[⟨"Shape", 33, 0, false, "", "", 0⟩, ⟨"Deeds", 34, 3, false, "", "", 24⟩, ⟨"Old", 35, 4, false, "", "", 48⟩]⟩), [(.int .i64 0), (.int .i64 0), (.int .i64 0), (.slice none 0 0), (.slice none 0 0)], true, 5, 72⟩),
  (9, ⟨.string, [(.string ⟨#[]⟩)], false, 1, 16⟩),
  (159, ⟨(.slice 162), [(.slice none 0 0)], false, 1, 24⟩),
  (189, ⟨(.struct ⟨[⟨"ID", 3, 0, false, "", "", 0⟩, ⟨"Sum", 2, 1, false, "", "", 8⟩]⟩), [(.int .i64 0), (.int .i64 0)], true, 2, 16⟩),
  (291, ⟨(.struct ⟨[⟨"Keep", 243, 0, false, "", "", 0⟩, ⟨"Torn", 3, 1, false, "", "", 24⟩, ⟨"Offset", 3, 2, false, "", "", 32⟩]⟩), [(.slice none 0 0), (.int .i64 0), (.int .i64 0)], true, 3, 40⟩),
  (79, ⟨(.pointer 78), [(.pointer none)], false, 1, 8⟩),
  (219, ⟨(.struct ⟨[⟨"Page", 3, 0, false, "", "", 0⟩, ⟨"Since", 3, 1, false, "", "", 8⟩]⟩), [(.int .i64 0), (.int .i64 0)], true, 2, 16⟩),
  (121, ⟨(.struct ⟨[⟨"Kind", 3, 0, false, "", "", 0⟩, ⟨"A", 3, 1, false, "", "", 8⟩, ⟨"B", 3, 2, false, "", "", 16⟩, ⟨"D", 2, 3, false, "", "", 24⟩]⟩), [(.int .i64 0), (.int .i64 0), (.int .i64 0), (.int .i64 0)], true, 4, 32⟩),
  (124, ⟨(.map 3 91), [(.map none)], false, 1, 8⟩),
  (223, ⟨(.pointer 270), [(.pointer none)], false, 1, 8⟩),
  (126, ⟨(.struct ⟨[⟨"live", 124, 0, false, "", "quota/txns", 0⟩, ⟨"next", 3, 1, false, "", "quota/txns", 8⟩]⟩), [(.map none), (.int .i64 0)], true, 2, 16⟩),
  (226, ⟨(.slice 231), [(.slice none 0 0)], false, 1, 24⟩),
  (60, ⟨(.map 3 53), [(.map none)], false, 1, 8⟩),
  (45, ⟨(.struct ⟨[⟨"Lo", 2, 0, false, "", "", 0⟩, ⟨"Hi", 2, 1, false, "", "", 8⟩]⟩), [(.int .i64 0), (.int .i64 0)], true, 2, 16⟩),
  (118, ⟨(.int .u64), [(.int .u64 0)], false, 1, 8⟩),
  (74, ⟨(.slice 43), [(.slice none 0 0)], false, 1, 24⟩),
  (231, ⟨(.pointer 3), [(.pointer none)], false, 1, 8⟩),
  (83, ⟨(.pointer 126), [(.pointer none)], false, 1, 8⟩),
  (86, ⟨(.pointer 88), [(.pointer none)], false, 1, 8⟩),
  (215, ⟨(.struct ⟨[⟨"C", 47, 0, false, "", "", 0⟩, ⟨"Where", 43, 5, false, "", "", 40⟩, ⟨"Sums", 43, 7, false, "", "", 56⟩]⟩), [(.int .i64 0), (.int .i64 0), (.int .i64 0), (.int .i64 0), (.int .i64 0), (.int .i64 0), (.int .i64 0), (.int .i64 0), (.int .i64 0)], true, 9, 72⟩),
  (270, ⟨(.struct ⟨[⟨"b", 162, 0, false, "", "quota/field", 0⟩]⟩), [(.slice none 0 0)], true, 1, 24⟩),
  (303, ⟨(.struct ⟨[⟨"at", 3, 0, false, "", "quota/log", 0⟩, ⟨"e", 25, 1, false, "", "quota/log", 8⟩]⟩), [(.int .i64 0), (.int .i64 0)], true, 2, 16⟩),
  (85, ⟨(.struct ⟨[⟨"err", 25, 0, false, "", "quota/undo", 0⟩]⟩), [(.int .i64 0)], true, 1, 8⟩),
  (276, ⟨(.struct ⟨[⟨"err", 25, 0, false, "", "quota/twin", 0⟩]⟩), [(.int .i64 0)], true, 1, 8⟩),
  (154, ⟨(.slice 4), [(.slice none 0 0)], false, 1, 24⟩),
  (134, ⟨(.pointer 139), [(.pointer none)], false, 1, 8⟩),
  (196, ⟨(.interface #[("AssignableTo", 200), ("Comparable", 23), ("Elem", 197), ("Implements", 200), ("Kind", 199), ("Name", 308), ("PkgPath", 308), ("Size", 322), ("String", 308), ("internal/reflectlite.common", 314), ("internal/reflectlite.uncommon", 323)]), [.nilIface], false, 1, 16⟩),
  (34, ⟨(.slice 121), [(.slice none 0 0)], false, 1, 24⟩),
  (63, ⟨(.func #[2, 2] #[2, 25] false), [.nilFunc], false, 1, 8⟩),
  (227, ⟨(.slice 232), [(.slice none 0 0)], false, 1, 24⟩),
  (66, ⟨(.func #[117] #[] false), [.nilFunc], false, 1, 8⟩),
  (145, ⟨(.pointer 104), [(.pointer none)], false, 1, 8⟩),
  (143, ⟨(.func #[2] #[2, 25] false), [.nilFunc], false, 1, 8⟩),
  (198, ⟨(.int .u8), [(.int .u8 0)], false, 1, 1⟩),
  (204, ⟨(.int .i64), [(.int .i64 0)], false, 1, 8⟩),
  (261, ⟨(.slice 56), [(.slice none 0 0)], false, 1, 24⟩),
  (279, ⟨(.func #[5] #[4] false), [.nilFunc], false, 1, 8⟩),
  (301, ⟨(.array 16 212), [(.int .u32 0), (.int .u32 0), (.int .u32 0), (.int .u32 0), (.int .u32 0), (.int .u32 0), (.int .u32 0), (.int .u32 0), (.int .u32 0), (.int .u32 0), (.int .u32 0), (.int .u32 0), (.int .u32 0), (.int .u32 0), (.int .u32 0), (.int .u32 0)], true, 16, 64⟩),
  (98, ⟨(.func #[3] #[] false), [.nilFunc], false, 1, 8⟩),
  (142, ⟨(.pointer 25), [(.pointer none)], false, 1, 8⟩),
  (167, ⟨(.func #[91] #[4] false), [.nilFunc], false, 1, 8⟩),
  (168, ⟨(.func #[173] #[] false), [.nilFunc], false, 1, 8⟩),
  (173, ⟨(.pointer 91), [(.pointer none)], false, 1, 8⟩),
  (230, ⟨(.pointer 53), [(.pointer none)], false, 1, 8⟩),
  (232, ⟨(.pointer 2), [(.pointer none)], false, 1, 8⟩),
  (255, ⟨(.interface #[("As", 257)]), [.nilIface], false, 1, 16⟩),
  (258, ⟨(.interface #[("Unwrap", 259)]), [.nilIface], false, 1, 16⟩),
  (260, ⟨(.interface #[("Unwrap", 262)]), [.nilIface], false, 1, 16⟩),
  (1, ⟨(.func #[] #[] false), [.nilFunc], false, 1, 8⟩),
  (17, ⟨(.pointer 321), [(.pointer none)], false, 1, 8⟩),
  (190, ⟨.unsafePointer, [(.pointer none)], false, 1, 8⟩),
  (191, ⟨(.int .u64), [(.int .u64 0)], false, 1, 8⟩)]
def tab : Tab := fun t => findT rows t
def AllOk (P : Program) : List (Nat × TRow) → Prop
  | [] => True
  | p :: l => p.2.ok P p.1 ∧ AllOk P l
theorem findT_ok {P : Program} : ∀ (l : List (Nat × TRow)), AllOk P l → ∀ t r, findT l t = some r → r.ok P t
  | [], _, _, _, h => by simp [findT] at h
  | (k, r) :: l, ⟨h1, h2⟩, t, r', h => by
    simp only [findT] at h
    split at h
    · rename_i hb; cases h; obtain rfl := Nat.eq_of_beq_eq_true hb; exact h1
    · exact findT_ok l h2 t r' h
theorem row3 : TRow.ok prog 3 ⟨(.int .i64), [(.int .i64 0)], false, 1, 8⟩ := ⟨Go.Proofs.Tryz.underlying3, rfl, Go.Proofs.Tryz.t3, by kernel_rfl, by kernel_rfl, by kernel_rfl, by kernel_rfl, fun _ => ⟨_, rfl, rfl⟩⟩
theorem row53 : TRow.ok prog 53 ⟨(.struct ⟨[⟨"LSN", 3, 0, false, "", "", 0⟩, ⟨"Kind", 41, 1, false, "", "", 8⟩, ⟨"Tx", 3, 2, false, "", "", 16⟩, ⟨"Prev", 3, 3, false, "", "", 24⟩, ⟨"Where", 43, 4, false, "", "", 32⟩, ⟨"Sums", 43, 6, false, "", "", 48⟩, ⟨"Delta", 2, 8, false, "", "", 64⟩, ⟨"Counter", 47, 9, false, "", "", 72⟩, ⟨"Points", 51, 14, false, "", "", 112⟩]⟩), [(.int .i64 0), (.int .i64 0), (.int .i64 0), (.int .i64 0), (.int .i64 0), (.int .i64 0), (.int .i64 0), (.int .i64 0), (.int .i64 0), (.int .i64 0), (.int .i64 0), (.int .i64 0), (.int .i64 0), (.int .i64 0), (.slice none 0 0), (.slice none 0 0), (.int .i64 0)], true, 17, 168⟩ := ⟨Go.Proofs.Tryz.underlying53, rfl, Go.Proofs.Tryz.t53, by kernel_rfl, by kernel_rfl, by kernel_rfl, by kernel_rfl, fun h => by cases h⟩
theorem row35 : TRow.ok prog 35 ⟨(.slice 3), [(.slice none 0 0)], false, 1, 24⟩ := ⟨Go.Proofs.Tryz.underlying35, rfl, Go.Proofs.Tryz.t35, by kernel_rfl, by kernel_rfl, by kernel_rfl, by kernel_rfl, fun _ => ⟨_, rfl, rfl⟩⟩
theorem row104 : TRow.ok prog 104 ⟨(.struct ⟨[⟨"Number", 3, 0, false, "", "", 0⟩, ⟨"LSN", 3, 1, false, "", "", 8⟩, ⟨"Counters", 101, 2, false, "", "", 16⟩, ⟨"Groups", 102, 3, false, "", "", 40⟩]⟩), [(.int .i64 0), (.int .i64 0), (.slice none 0 0), (.slice none 0 0)], true, 4, 64⟩ := ⟨Go.Proofs.Tryz.underlying104, rfl, Go.Proofs.Tryz.t104, by kernel_rfl, by kernel_rfl, by kernel_rfl, by kernel_rfl, fun h => by cases h⟩
theorem row22 : TRow.ok prog 22 ⟨(.slice 53), [(.slice none 0 0)], false, 1, 24⟩ := ⟨Go.Proofs.Tryz.underlying22, rfl, Go.Proofs.Tryz.t22, by kernel_rfl, by kernel_rfl, by kernel_rfl, by kernel_rfl, fun _ => ⟨_, rfl, rfl⟩⟩
theorem row2 : TRow.ok prog 2 ⟨(.int .i64), [(.int .i64 0)], false, 1, 8⟩ := ⟨Go.Proofs.Tryz.underlying2, rfl, Go.Proofs.Tryz.t2, by kernel_rfl, by kernel_rfl, by kernel_rfl, by kernel_rfl, fun _ => ⟨_, rfl, rfl⟩⟩
theorem row162 : TRow.ok prog 162 ⟨(.slice 5), [(.slice none 0 0)], false, 1, 24⟩ := ⟨Go.Proofs.Tryz.underlying162, rfl, Go.Proofs.Tryz.t162, by kernel_rfl, by kernel_rfl, by kernel_rfl, by kernel_rfl, fun _ => ⟨_, rfl, rfl⟩⟩
theorem row111 : TRow.ok prog 111 ⟨(.int .u64), [(.int .u64 0)], false, 1, 8⟩ := ⟨Go.Proofs.Tryz.underlying111, rfl, Go.Proofs.Tryz.t111, by kernel_rfl, by kernel_rfl, by kernel_rfl, by kernel_rfl, fun _ => ⟨_, rfl, rfl⟩⟩
theorem row4 : TRow.ok prog 4 ⟨.bool, [(.bool false)], false, 1, 1⟩ := ⟨Go.Proofs.Tryz.underlying4, rfl, Go.Proofs.Tryz.t4, by kernel_rfl, by kernel_rfl, by kernel_rfl, by kernel_rfl, fun _ => ⟨_, rfl, rfl⟩⟩
theorem row43 : TRow.ok prog 43 ⟨(.struct ⟨[⟨"Page", 3, 0, false, "", "", 0⟩, ⟨"Index", 3, 1, false, "", "", 8⟩]⟩), [(.int .i64 0), (.int .i64 0)], true, 2, 16⟩ := ⟨Go.Proofs.Tryz.underlying43, rfl, Go.Proofs.Tryz.t43, by kernel_rfl, by kernel_rfl, by kernel_rfl, by kernel_rfl, fun h => by cases h⟩
theorem row25 : TRow.ok prog 25 ⟨(.int .i64), [(.int .i64 0)], false, 1, 8⟩ := ⟨Go.Proofs.Tryz.underlying25, rfl, Go.Proofs.Tryz.t25, by kernel_rfl, by kernel_rfl, by kernel_rfl, by kernel_rfl, fun _ => ⟨_, rfl, rfl⟩⟩
theorem row47 : TRow.ok prog 47 ⟨(.struct ⟨[⟨"ID", 3, 0, false, "", "", 0⟩, ⟨"Group", 3, 1, false, "", "", 8⟩, ⟨"Bounds", 45, 2, false, "", "", 16⟩, ⟨"Value", 2, 4, false, "", "", 32⟩]⟩), [(.int .i64 0), (.int .i64 0), (.int .i64 0), (.int .i64 0), (.int .i64 0)], true, 5, 40⟩ := ⟨Go.Proofs.Tryz.underlying47, rfl, Go.Proofs.Tryz.t47, by kernel_rfl, by kernel_rfl, by kernel_rfl, by kernel_rfl, fun h => by cases h⟩
theorem row41 : TRow.ok prog 41 ⟨(.int .i64), [(.int .i64 0)], false, 1, 8⟩ := ⟨Go.Proofs.Tryz.underlying41, rfl, Go.Proofs.Tryz.t41, by kernel_rfl, by kernel_rfl, by kernel_rfl, by kernel_rfl, fun _ => ⟨_, rfl, rfl⟩⟩
theorem row91 : TRow.ok prog 91 ⟨(.struct ⟨[⟨"Tx", 3, 0, false, "", "", 0⟩, ⟨"Last", 3, 1, false, "", "", 8⟩, ⟨"Committed", 4, 2, false, "", "", 16⟩, ⟨"Undoing", 4, 3, false, "", "", 17⟩]⟩), [(.int .i64 0), (.int .i64 0), (.bool false), (.bool false)], true, 4, 24⟩ := ⟨Go.Proofs.Tryz.underlying91, rfl, Go.Proofs.Tryz.t91, by kernel_rfl, by kernel_rfl, by kernel_rfl, by kernel_rfl, fun h => by cases h⟩
theorem row78 : TRow.ok prog 78 ⟨(.struct ⟨[⟨"Pages", 3, 0, false, "", "", 0⟩, ⟨"R", 22, 1, false, "", "", 8⟩, ⟨"L", 73, 2, false, "", "", 32⟩, ⟨"Groups", 74, 3, false, "", "", 56⟩, ⟨"IDs", 35, 4, false, "", "", 80⟩, ⟨"Live", 75, 5, false, "", "", 104⟩, ⟨"Next", 3, 6, false, "", "", 128⟩, ⟨"Settled", 76, 7, false, "", "", 136⟩]⟩), [(.int .i64 0), (.slice none 0 0), (.slice none 0 0), (.slice none 0 0), (.slice none 0 0), (.slice none 0 0), (.int .i64 0), (.slice none 0 0)], true, 8, 160⟩ := ⟨Go.Proofs.Tryz.underlying78, rfl, Go.Proofs.Tryz.t78, by kernel_rfl, by kernel_rfl, by kernel_rfl, by kernel_rfl, fun h => by cases h⟩
theorem row56 : TRow.ok prog 56 ⟨(.interface #[("Error", 308)]), [.nilIface], false, 1, 16⟩ := ⟨Go.Proofs.Tryz.underlying56, rfl, Go.Proofs.Tryz.t56, by kernel_rfl, by kernel_rfl, by kernel_rfl, by kernel_rfl, fun _ => ⟨_, rfl, rfl⟩⟩
theorem row102 : TRow.ok prog 102 ⟨(.slice 189), [(.slice none 0 0)], false, 1, 24⟩ := ⟨Go.Proofs.Tryz.underlying102, rfl, Go.Proofs.Tryz.t102, by kernel_rfl, by kernel_rfl, by kernel_rfl, by kernel_rfl, fun _ => ⟨_, rfl, rfl⟩⟩
theorem row101 : TRow.ok prog 101 ⟨(.slice 47), [(.slice none 0 0)], false, 1, 24⟩ := ⟨Go.Proofs.Tryz.underlying101, rfl, Go.Proofs.Tryz.t101, by kernel_rfl, by kernel_rfl, by kernel_rfl, by kernel_rfl, fun _ => ⟨_, rfl, rfl⟩⟩
theorem row75 : TRow.ok prog 75 ⟨(.slice 156), [(.slice none 0 0)], false, 1, 24⟩ := ⟨Go.Proofs.Tryz.underlying75, rfl, Go.Proofs.Tryz.t75, by kernel_rfl, by kernel_rfl, by kernel_rfl, by kernel_rfl, fun _ => ⟨_, rfl, rfl⟩⟩
theorem row158 : TRow.ok prog 158 ⟨(.pointer 293), [(.pointer none)], false, 1, 8⟩ := ⟨Go.Proofs.Tryz.underlying158, rfl, Go.Proofs.Tryz.t158, by kernel_rfl, by kernel_rfl, by kernel_rfl, by kernel_rfl, fun _ => ⟨_, rfl, rfl⟩⟩
theorem row33 : TRow.ok prog 33 ⟨(.struct ⟨[⟨"Pages", 3, 0, false, "", "", 0⟩, ⟨"Log", 3, 1, false, "", "", 8⟩, ⟨"Frames", 3, 2, false, "", "", 16⟩]⟩), [(.int .i64 0), (.int .i64 0), (.int .i64 0)], true, 3, 24⟩ := ⟨Go.Proofs.Tryz.underlying33, rfl, Go.Proofs.Tryz.t33, by kernel_rfl, by kernel_rfl, by kernel_rfl, by kernel_rfl, fun h => by cases h⟩
theorem row5 : TRow.ok prog 5 ⟨(.int .u8), [(.int .u8 0)], false, 1, 1⟩ := ⟨Go.Proofs.Tryz.underlying5, rfl, Go.Proofs.Tryz.t5, by kernel_rfl, by kernel_rfl, by kernel_rfl, by kernel_rfl, fun _ => ⟨_, rfl, rfl⟩⟩
theorem row51 : TRow.ok prog 51 ⟨(.struct ⟨[⟨"Live", 48, 0, false, "", "", 0⟩, ⟨"Dirty", 49, 1, false, "", "", 24⟩, ⟨"Next", 3, 2, false, "", "", 48⟩]⟩), [(.slice none 0 0), (.slice none 0 0), (.int .i64 0)], true, 3, 56⟩ := ⟨Go.Proofs.Tryz.underlying51, rfl, Go.Proofs.Tryz.t51, by kernel_rfl, by kernel_rfl, by kernel_rfl, by kernel_rfl, fun h => by cases h⟩
theorem row243 : TRow.ok prog 243 ⟨(.slice 111), [(.slice none 0 0)], false, 1, 24⟩ := ⟨Go.Proofs.Tryz.underlying243, rfl, Go.Proofs.Tryz.t243, by kernel_rfl, by kernel_rfl, by kernel_rfl, by kernel_rfl, fun _ => ⟨_, rfl, rfl⟩⟩
theorem row156 : TRow.ok prog 156 ⟨(.struct ⟨[⟨"Tx", 3, 0, false, "", "", 0⟩, ⟨"Last", 3, 1, false, "", "", 8⟩, ⟨"Committed", 4, 2, false, "", "", 16⟩, ⟨"Nets", 76, 3, false, "", "", 24⟩, ⟨"Holds", 154, 4, false, "", "", 48⟩]⟩), [(.int .i64 0), (.int .i64 0), (.bool false), (.slice none 0 0), (.slice none 0 0)], true, 5, 72⟩ := ⟨Go.Proofs.Tryz.underlying156, rfl, Go.Proofs.Tryz.t156, by kernel_rfl, by kernel_rfl, by kernel_rfl, by kernel_rfl, fun h => by cases h⟩
theorem row81 : TRow.ok prog 81 ⟨(.pointer 161), [(.pointer none)], false, 1, 8⟩ := ⟨Go.Proofs.Tryz.underlying81, rfl, Go.Proofs.Tryz.t81, by kernel_rfl, by kernel_rfl, by kernel_rfl, by kernel_rfl, fun _ => ⟨_, rfl, rfl⟩⟩
theorem row113 : TRow.ok prog 113 ⟨(.struct ⟨[⟨"high", 2, 0, false, "", "quota/interval", 0⟩, ⟨"low", 111, 1, false, "", "quota/interval", 8⟩]⟩), [(.int .i64 0), (.int .u64 0)], true, 2, 16⟩ := ⟨Go.Proofs.Tryz.underlying113, rfl, Go.Proofs.Tryz.t113, by kernel_rfl, by kernel_rfl, by kernel_rfl, by kernel_rfl, fun h => by cases h⟩
theorem row161 : TRow.ok prog 161 ⟨(.struct ⟨[⟨"d", 158, 0, false, "", "quota/log", 0⟩, ⟨"first", 3, 1, false, "", "quota/log", 8⟩, ⟨"count", 3, 2, false, "", "quota/log", 16⟩, ⟨"records", 22, 3, false, "", "quota/log", 24⟩, ⟨"bytes", 159, 4, false, "", "quota/log", 48⟩, ⟨"forced", 3, 5, false, "", "quota/log", 72⟩, ⟨"err", 56, 6, false, "", "quota/log", 80⟩]⟩), [(.pointer none), (.int .i64 0), (.int .i64 0), (.slice none 0 0), (.slice none 0 0), (.int .i64 0), .nilIface], true, 7, 96⟩ := ⟨Go.Proofs.Tryz.underlying161, rfl, Go.Proofs.Tryz.t161, by kernel_rfl, by kernel_rfl, by kernel_rfl, by kernel_rfl, fun h => by cases h⟩
theorem row293 : TRow.ok prog 293 ⟨(.struct ⟨[⟨"image", 162, 0, false, "", "quota/sectors", 0⟩, ⟨"pending", 289, 1, false, "", "quota/sectors", 24⟩, ⟨"step", 3, 2, false, "", "quota/sectors", 48⟩, ⟨"loss", 291, 3, false, "", "quota/sectors", 56⟩, ⟨"down", 4, 6, false, "", "quota/sectors", 96⟩, ⟨"calls", 3, 7, false, "", "quota/sectors", 104⟩]⟩), [(.slice none 0 0), (.slice none 0 0), (.int .i64 0), (.slice none 0 0), (.int .i64 0), (.int .i64 0), (.bool false), (.int .i64 0)], true, 8, 112⟩ := ⟨Go.Proofs.Tryz.underlying293, rfl, Go.Proofs.Tryz.t293, by kernel_rfl, by kernel_rfl, by kernel_rfl, by kernel_rfl, fun h => by cases h⟩
theorem row48 : TRow.ok prog 48 ⟨(.slice 91), [(.slice none 0 0)], false, 1, 24⟩ := ⟨Go.Proofs.Tryz.underlying48, rfl, Go.Proofs.Tryz.t48, by kernel_rfl, by kernel_rfl, by kernel_rfl, by kernel_rfl, fun _ => ⟨_, rfl, rfl⟩⟩
theorem row49 : TRow.ok prog 49 ⟨(.slice 219), [(.slice none 0 0)], false, 1, 24⟩ := ⟨Go.Proofs.Tryz.underlying49, rfl, Go.Proofs.Tryz.t49, by kernel_rfl, by kernel_rfl, by kernel_rfl, by kernel_rfl, fun _ => ⟨_, rfl, rfl⟩⟩
theorem row40 : TRow.ok prog 40 ⟨(.slice 22), [(.slice none 0 0)], false, 1, 24⟩ := ⟨Go.Proofs.Tryz.underlying40, rfl, Go.Proofs.Tryz.t40, by kernel_rfl, by kernel_rfl, by kernel_rfl, by kernel_rfl, fun _ => ⟨_, rfl, rfl⟩⟩
theorem row177 : TRow.ok prog 177 ⟨(.struct ⟨[⟨"d", 158, 0, false, "", "quota/pool", 0⟩, ⟨"l", 81, 1, false, "", "quota/pool", 8⟩, ⟨"shape", 33, 2, false, "", "quota/pool", 16⟩, ⟨"held", 175, 5, false, "", "quota/pool", 40⟩, ⟨"clock", 3, 6, false, "", "quota/pool", 48⟩, ⟨"ended", 4, 7, false, "", "quota/pool", 56⟩]⟩), [(.pointer none), (.pointer none), (.int .i64 0), (.int .i64 0), (.int .i64 0), (.map none), (.int .i64 0), (.bool false)], true, 8, 64⟩ := ⟨Go.Proofs.Tryz.underlying177, rfl, Go.Proofs.Tryz.t177, by kernel_rfl, by kernel_rfl, by kernel_rfl, by kernel_rfl, fun h => by cases h⟩
theorem row82 : TRow.ok prog 82 ⟨(.pointer 177), [(.pointer none)], false, 1, 8⟩ := ⟨Go.Proofs.Tryz.underlying82, rfl, Go.Proofs.Tryz.t82, by kernel_rfl, by kernel_rfl, by kernel_rfl, by kernel_rfl, fun _ => ⟨_, rfl, rfl⟩⟩
theorem row212 : TRow.ok prog 212 ⟨(.int .u32), [(.int .u32 0)], false, 1, 4⟩ := ⟨Go.Proofs.Tryz.underlying212, rfl, Go.Proofs.Tryz.t212, by kernel_rfl, by kernel_rfl, by kernel_rfl, by kernel_rfl, fun _ => ⟨_, rfl, rfl⟩⟩
theorem row264 : TRow.ok prog 264 ⟨(.int .u64), [(.int .u64 0)], false, 1, 8⟩ := ⟨Go.Proofs.Tryz.underlying264, rfl, Go.Proofs.Tryz.t264, by kernel_rfl, by kernel_rfl, by kernel_rfl, by kernel_rfl, fun _ => ⟨_, rfl, rfl⟩⟩
theorem row289 : TRow.ok prog 289 ⟨(.slice 298), [(.slice none 0 0)], false, 1, 24⟩ := ⟨Go.Proofs.Tryz.underlying289, rfl, Go.Proofs.Tryz.t289, by kernel_rfl, by kernel_rfl, by kernel_rfl, by kernel_rfl, fun _ => ⟨_, rfl, rfl⟩⟩
theorem row73 : TRow.ok prog 73 ⟨(.slice 215), [(.slice none 0 0)], false, 1, 24⟩ := ⟨Go.Proofs.Tryz.underlying73, rfl, Go.Proofs.Tryz.t73, by kernel_rfl, by kernel_rfl, by kernel_rfl, by kernel_rfl, fun _ => ⟨_, rfl, rfl⟩⟩
theorem row298 : TRow.ok prog 298 ⟨(.struct ⟨[⟨"Sector", 3, 0, false, "", "", 0⟩, ⟨"Bytes", 162, 1, false, "", "", 8⟩]⟩), [(.int .i64 0), (.slice none 0 0)], true, 2, 32⟩ := ⟨Go.Proofs.Tryz.underlying298, rfl, Go.Proofs.Tryz.t298, by kernel_rfl, by kernel_rfl, by kernel_rfl, by kernel_rfl, fun h => by cases h⟩
theorem row76 : TRow.ok prog 76 ⟨(.slice 2), [(.slice none 0 0)], false, 1, 24⟩ := ⟨Go.Proofs.Tryz.underlying76, rfl, Go.Proofs.Tryz.t76, by kernel_rfl, by kernel_rfl, by kernel_rfl, by kernel_rfl, fun _ => ⟨_, rfl, rfl⟩⟩
theorem row170 : TRow.ok prog 170 ⟨(.struct ⟨[⟨"may", 167, 0, false, "", "quota/txns", 0⟩, ⟨"then", 168, 1, false, "", "quota/txns", 8⟩]⟩), [.nilFunc, .nilFunc], true, 2, 16⟩ := ⟨Go.Proofs.Tryz.underlying170, rfl, Go.Proofs.Tryz.t170, by kernel_rfl, by kernel_rfl, by kernel_rfl, by kernel_rfl, fun h => by cases h⟩
theorem row175 : TRow.ok prog 175 ⟨(.map 3 134), [(.map none)], false, 1, 8⟩ := ⟨Go.Proofs.Tryz.underlying175, rfl, Go.Proofs.Tryz.t175, by kernel_rfl, by kernel_rfl, by kernel_rfl, by kernel_rfl, fun _ => ⟨_, rfl, rfl⟩⟩
theorem row139 : TRow.ok prog 139 ⟨(.struct ⟨[⟨"state", 104, 0, false, "", "quota/pool", 0⟩, ⟨"pins", 3, 4, false, "", "quota/pool", 64⟩, ⟨"dirty", 4, 5, false, "", "quota/pool", 72⟩, ⟨"since", 3, 6, false, "", "quota/pool", 80⟩, ⟨"used", 3, 7, false, "", "quota/pool", 88⟩]⟩), [(.int .i64 0), (.int .i64 0), (.slice none 0 0), (.slice none 0 0), (.int .i64 0), (.bool false), (.int .i64 0), (.int .i64 0)], true, 8, 96⟩ := ⟨Go.Proofs.Tryz.underlying139, rfl, Go.Proofs.Tryz.t139, by kernel_rfl, by kernel_rfl, by kernel_rfl, by kernel_rfl, fun h => by cases h⟩
theorem row70 : TRow.ok prog 70 ⟨(.struct ⟨[⟨"H", 2, 0, false, "", "", 0⟩, ⟨"L", 2, 1, false, "", "", 8⟩]⟩), [(.int .i64 0), (.int .i64 0)], true, 2, 16⟩ := ⟨Go.Proofs.Tryz.underlying70, rfl, Go.Proofs.Tryz.t70, by kernel_rfl, by kernel_rfl, by kernel_rfl, by kernel_rfl, fun h => by cases h⟩
theorem row88 : TRow.ok prog 88 ⟨(.struct ⟨[⟨"Call", 9, 0, false, "", "", 0⟩, ⟨"At", 3, 1, false, "", "", 16⟩, ⟨"Err", 56, 2, false, "", "", 24⟩]⟩), [(.string ⟨#[]⟩), (.int .i64 0), .nilIface], true, 3, 40⟩ := ⟨Go.Proofs.Tryz.underlying88, rfl, Go.Proofs.Tryz.t88, by kernel_rfl, by kernel_rfl, by kernel_rfl, by kernel_rfl, fun h => by cases h⟩
theorem row20 : TRow.ok prog 20 ⟨(.interface #[]), [.nilIface], false, 1, 16⟩ := ⟨Go.Proofs.Tryz.underlying20, rfl, Go.Proofs.Tryz.t20, by kernel_rfl, by kernel_rfl, by kernel_rfl, by kernel_rfl, fun _ => ⟨_, rfl, rfl⟩⟩
theorem row96 : TRow.ok prog 96 ⟨(.struct ⟨[⟨"log", 81, 0, false, "", "quota/undo", 0⟩, ⟨"table", 83, 1, false, "", "quota/undo", 8⟩, ⟨"tx", 3, 2, false, "", "quota/undo", 16⟩]⟩), [(.pointer none), (.pointer none), (.int .i64 0)], true, 3, 24⟩ := ⟨Go.Proofs.Tryz.underlying96, rfl, Go.Proofs.Tryz.t96, by kernel_rfl, by kernel_rfl, by kernel_rfl, by kernel_rfl, fun h => by cases h⟩
theorem row193 : TRow.ok prog 193 ⟨(.struct ⟨[⟨"typ_", 17, 0, false, "", "internal/reflectlite", 0⟩, ⟨"ptr", 190, 1, false, "", "internal/reflectlite", 8⟩, ⟨"flag", 191, 2, true, "", "internal/reflectlite", 16⟩]⟩), [(.pointer none), (.pointer none), (.int .u64 0)], true, 3, 24⟩ := ⟨Go.Proofs.Tryz.underlying193, rfl, Go.Proofs.Tryz.t193, by kernel_rfl, by kernel_rfl, by kernel_rfl, by kernel_rfl, fun h => by cases h⟩
theorem row37 : TRow.ok prog 37 ⟨(.struct ⟨[⟨"Shape", 33, 0, false, "", "", 0⟩, ⟨"Deeds", 34, 3, false, "", "", 24⟩, ⟨"Old", 35, 4, false, "", "", 48⟩]⟩), [(.int .i64 0), (.int .i64 0), (.int .i64 0), (.slice none 0 0), (.slice none 0 0)], true, 5, 72⟩ := ⟨Go.Proofs.Tryz.underlying37, rfl, Go.Proofs.Tryz.t37, by kernel_rfl, by kernel_rfl, by kernel_rfl, by kernel_rfl, fun h => by cases h⟩
theorem row9 : TRow.ok prog 9 ⟨.string, [(.string ⟨#[]⟩)], false, 1, 16⟩ := ⟨Go.Proofs.Tryz.underlying9, rfl, Go.Proofs.Tryz.t9, by kernel_rfl, by kernel_rfl, by kernel_rfl, by kernel_rfl, fun _ => ⟨_, rfl, rfl⟩⟩
theorem row159 : TRow.ok prog 159 ⟨(.slice 162), [(.slice none 0 0)], false, 1, 24⟩ := ⟨Go.Proofs.Tryz.underlying159, rfl, Go.Proofs.Tryz.t159, by kernel_rfl, by kernel_rfl, by kernel_rfl, by kernel_rfl, fun _ => ⟨_, rfl, rfl⟩⟩
theorem row189 : TRow.ok prog 189 ⟨(.struct ⟨[⟨"ID", 3, 0, false, "", "", 0⟩, ⟨"Sum", 2, 1, false, "", "", 8⟩]⟩), [(.int .i64 0), (.int .i64 0)], true, 2, 16⟩ := ⟨Go.Proofs.Tryz.underlying189, rfl, Go.Proofs.Tryz.t189, by kernel_rfl, by kernel_rfl, by kernel_rfl, by kernel_rfl, fun h => by cases h⟩
theorem row291 : TRow.ok prog 291 ⟨(.struct ⟨[⟨"Keep", 243, 0, false, "", "", 0⟩, ⟨"Torn", 3, 1, false, "", "", 24⟩, ⟨"Offset", 3, 2, false, "", "", 32⟩]⟩), [(.slice none 0 0), (.int .i64 0), (.int .i64 0)], true, 3, 40⟩ := ⟨Go.Proofs.Tryz.underlying291, rfl, Go.Proofs.Tryz.t291, by kernel_rfl, by kernel_rfl, by kernel_rfl, by kernel_rfl, fun h => by cases h⟩
theorem row79 : TRow.ok prog 79 ⟨(.pointer 78), [(.pointer none)], false, 1, 8⟩ := ⟨Go.Proofs.Tryz.underlying79, rfl, Go.Proofs.Tryz.t79, by kernel_rfl, by kernel_rfl, by kernel_rfl, by kernel_rfl, fun _ => ⟨_, rfl, rfl⟩⟩
theorem row219 : TRow.ok prog 219 ⟨(.struct ⟨[⟨"Page", 3, 0, false, "", "", 0⟩, ⟨"Since", 3, 1, false, "", "", 8⟩]⟩), [(.int .i64 0), (.int .i64 0)], true, 2, 16⟩ := ⟨Go.Proofs.Tryz.underlying219, rfl, Go.Proofs.Tryz.t219, by kernel_rfl, by kernel_rfl, by kernel_rfl, by kernel_rfl, fun h => by cases h⟩
theorem row121 : TRow.ok prog 121 ⟨(.struct ⟨[⟨"Kind", 3, 0, false, "", "", 0⟩, ⟨"A", 3, 1, false, "", "", 8⟩, ⟨"B", 3, 2, false, "", "", 16⟩, ⟨"D", 2, 3, false, "", "", 24⟩]⟩), [(.int .i64 0), (.int .i64 0), (.int .i64 0), (.int .i64 0)], true, 4, 32⟩ := ⟨Go.Proofs.Tryz.underlying121, rfl, Go.Proofs.Tryz.t121, by kernel_rfl, by kernel_rfl, by kernel_rfl, by kernel_rfl, fun h => by cases h⟩
theorem row124 : TRow.ok prog 124 ⟨(.map 3 91), [(.map none)], false, 1, 8⟩ := ⟨Go.Proofs.Tryz.underlying124, rfl, Go.Proofs.Tryz.t124, by kernel_rfl, by kernel_rfl, by kernel_rfl, by kernel_rfl, fun _ => ⟨_, rfl, rfl⟩⟩
theorem row223 : TRow.ok prog 223 ⟨(.pointer 270), [(.pointer none)], false, 1, 8⟩ := ⟨Go.Proofs.Tryz.underlying223, rfl, Go.Proofs.Tryz.t223, by kernel_rfl, by kernel_rfl, by kernel_rfl, by kernel_rfl, fun _ => ⟨_, rfl, rfl⟩⟩
theorem row126 : TRow.ok prog 126 ⟨(.struct ⟨[⟨"live", 124, 0, false, "", "quota/txns", 0⟩, ⟨"next", 3, 1, false, "", "quota/txns", 8⟩]⟩), [(.map none), (.int .i64 0)], true, 2, 16⟩ := ⟨Go.Proofs.Tryz.underlying126, rfl, Go.Proofs.Tryz.t126, by kernel_rfl, by kernel_rfl, by kernel_rfl, by kernel_rfl, fun h => by cases h⟩
theorem row226 : TRow.ok prog 226 ⟨(.slice 231), [(.slice none 0 0)], false, 1, 24⟩ := ⟨Go.Proofs.Tryz.underlying226, rfl, Go.Proofs.Tryz.t226, by kernel_rfl, by kernel_rfl, by kernel_rfl, by kernel_rfl, fun _ => ⟨_, rfl, rfl⟩⟩
theorem row60 : TRow.ok prog 60 ⟨(.map 3 53), [(.map none)], false, 1, 8⟩ := ⟨Go.Proofs.Tryz.underlying60, rfl, Go.Proofs.Tryz.t60, by kernel_rfl, by kernel_rfl, by kernel_rfl, by kernel_rfl, fun _ => ⟨_, rfl, rfl⟩⟩
theorem row45 : TRow.ok prog 45 ⟨(.struct ⟨[⟨"Lo", 2, 0, false, "", "", 0⟩, ⟨"Hi", 2, 1, false, "", "", 8⟩]⟩), [(.int .i64 0), (.int .i64 0)], true, 2, 16⟩ := ⟨Go.Proofs.Tryz.underlying45, rfl, Go.Proofs.Tryz.t45, by kernel_rfl, by kernel_rfl, by kernel_rfl, by kernel_rfl, fun h => by cases h⟩
theorem row118 : TRow.ok prog 118 ⟨(.int .u64), [(.int .u64 0)], false, 1, 8⟩ := ⟨Go.Proofs.Tryz.underlying118, rfl, Go.Proofs.Tryz.t118, by kernel_rfl, by kernel_rfl, by kernel_rfl, by kernel_rfl, fun _ => ⟨_, rfl, rfl⟩⟩
theorem row74 : TRow.ok prog 74 ⟨(.slice 43), [(.slice none 0 0)], false, 1, 24⟩ := ⟨Go.Proofs.Tryz.underlying74, rfl, Go.Proofs.Tryz.t74, by kernel_rfl, by kernel_rfl, by kernel_rfl, by kernel_rfl, fun _ => ⟨_, rfl, rfl⟩⟩
theorem row231 : TRow.ok prog 231 ⟨(.pointer 3), [(.pointer none)], false, 1, 8⟩ := ⟨Go.Proofs.Tryz.underlying231, rfl, Go.Proofs.Tryz.t231, by kernel_rfl, by kernel_rfl, by kernel_rfl, by kernel_rfl, fun _ => ⟨_, rfl, rfl⟩⟩
theorem row83 : TRow.ok prog 83 ⟨(.pointer 126), [(.pointer none)], false, 1, 8⟩ := ⟨Go.Proofs.Tryz.underlying83, rfl, Go.Proofs.Tryz.t83, by kernel_rfl, by kernel_rfl, by kernel_rfl, by kernel_rfl, fun _ => ⟨_, rfl, rfl⟩⟩
theorem row86 : TRow.ok prog 86 ⟨(.pointer 88), [(.pointer none)], false, 1, 8⟩ := ⟨Go.Proofs.Tryz.underlying86, rfl, Go.Proofs.Tryz.t86, by kernel_rfl, by kernel_rfl, by kernel_rfl, by kernel_rfl, fun _ => ⟨_, rfl, rfl⟩⟩
theorem row215 : TRow.ok prog 215 ⟨(.struct ⟨[⟨"C", 47, 0, false, "", "", 0⟩, ⟨"Where", 43, 5, false, "", "", 40⟩, ⟨"Sums", 43, 7, false, "", "", 56⟩]⟩), [(.int .i64 0), (.int .i64 0), (.int .i64 0), (.int .i64 0), (.int .i64 0), (.int .i64 0), (.int .i64 0), (.int .i64 0), (.int .i64 0)], true, 9, 72⟩ := ⟨Go.Proofs.Tryz.underlying215, rfl, Go.Proofs.Tryz.t215, by kernel_rfl, by kernel_rfl, by kernel_rfl, by kernel_rfl, fun h => by cases h⟩
theorem row270 : TRow.ok prog 270 ⟨(.struct ⟨[⟨"b", 162, 0, false, "", "quota/field", 0⟩]⟩), [(.slice none 0 0)], true, 1, 24⟩ := ⟨Go.Proofs.Tryz.underlying270, rfl, Go.Proofs.Tryz.t270, by kernel_rfl, by kernel_rfl, by kernel_rfl, by kernel_rfl, fun h => by cases h⟩
theorem row303 : TRow.ok prog 303 ⟨(.struct ⟨[⟨"at", 3, 0, false, "", "quota/log", 0⟩, ⟨"e", 25, 1, false, "", "quota/log", 8⟩]⟩), [(.int .i64 0), (.int .i64 0)], true, 2, 16⟩ := ⟨Go.Proofs.Tryz.underlying303, rfl, Go.Proofs.Tryz.t303, by kernel_rfl, by kernel_rfl, by kernel_rfl, by kernel_rfl, fun h => by cases h⟩
theorem row85 : TRow.ok prog 85 ⟨(.struct ⟨[⟨"err", 25, 0, false, "", "quota/undo", 0⟩]⟩), [(.int .i64 0)], true, 1, 8⟩ := ⟨Go.Proofs.Tryz.underlying85, rfl, Go.Proofs.Tryz.t85, by kernel_rfl, by kernel_rfl, by kernel_rfl, by kernel_rfl, fun h => by cases h⟩
theorem row276 : TRow.ok prog 276 ⟨(.struct ⟨[⟨"err", 25, 0, false, "", "quota/twin", 0⟩]⟩), [(.int .i64 0)], true, 1, 8⟩ := ⟨Go.Proofs.Tryz.underlying276, rfl, Go.Proofs.Tryz.t276, by kernel_rfl, by kernel_rfl, by kernel_rfl, by kernel_rfl, fun h => by cases h⟩
theorem row154 : TRow.ok prog 154 ⟨(.slice 4), [(.slice none 0 0)], false, 1, 24⟩ := ⟨Go.Proofs.Tryz.underlying154, rfl, Go.Proofs.Tryz.t154, by kernel_rfl, by kernel_rfl, by kernel_rfl, by kernel_rfl, fun _ => ⟨_, rfl, rfl⟩⟩
theorem row134 : TRow.ok prog 134 ⟨(.pointer 139), [(.pointer none)], false, 1, 8⟩ := ⟨Go.Proofs.Tryz.underlying134, rfl, Go.Proofs.Tryz.t134, by kernel_rfl, by kernel_rfl, by kernel_rfl, by kernel_rfl, fun _ => ⟨_, rfl, rfl⟩⟩
theorem row196 : TRow.ok prog 196 ⟨(.interface #[("AssignableTo", 200), ("Comparable", 23), ("Elem", 197), ("Implements", 200), ("Kind", 199), ("Name", 308), ("PkgPath", 308), ("Size", 322), ("String", 308), ("internal/reflectlite.common", 314), ("internal/reflectlite.uncommon", 323)]), [.nilIface], false, 1, 16⟩ := ⟨Go.Proofs.Tryz.underlying196, rfl, Go.Proofs.Tryz.t196, by kernel_rfl, by kernel_rfl, by kernel_rfl, by kernel_rfl, fun _ => ⟨_, rfl, rfl⟩⟩
theorem row34 : TRow.ok prog 34 ⟨(.slice 121), [(.slice none 0 0)], false, 1, 24⟩ := ⟨Go.Proofs.Tryz.underlying34, rfl, Go.Proofs.Tryz.t34, by kernel_rfl, by kernel_rfl, by kernel_rfl, by kernel_rfl, fun _ => ⟨_, rfl, rfl⟩⟩
theorem row63 : TRow.ok prog 63 ⟨(.func #[2, 2] #[2, 25] false), [.nilFunc], false, 1, 8⟩ := ⟨Go.Proofs.Tryz.underlying63, rfl, Go.Proofs.Tryz.t63, by kernel_rfl, by kernel_rfl, by kernel_rfl, by kernel_rfl, fun _ => ⟨_, rfl, rfl⟩⟩
theorem row227 : TRow.ok prog 227 ⟨(.slice 232), [(.slice none 0 0)], false, 1, 24⟩ := ⟨Go.Proofs.Tryz.underlying227, rfl, Go.Proofs.Tryz.t227, by kernel_rfl, by kernel_rfl, by kernel_rfl, by kernel_rfl, fun _ => ⟨_, rfl, rfl⟩⟩
theorem row66 : TRow.ok prog 66 ⟨(.func #[117] #[] false), [.nilFunc], false, 1, 8⟩ := ⟨Go.Proofs.Tryz.underlying66, rfl, Go.Proofs.Tryz.t66, by kernel_rfl, by kernel_rfl, by kernel_rfl, by kernel_rfl, fun _ => ⟨_, rfl, rfl⟩⟩
theorem row145 : TRow.ok prog 145 ⟨(.pointer 104), [(.pointer none)], false, 1, 8⟩ := ⟨Go.Proofs.Tryz.underlying145, rfl, Go.Proofs.Tryz.t145, by kernel_rfl, by kernel_rfl, by kernel_rfl, by kernel_rfl, fun _ => ⟨_, rfl, rfl⟩⟩
theorem row143 : TRow.ok prog 143 ⟨(.func #[2] #[2, 25] false), [.nilFunc], false, 1, 8⟩ := ⟨Go.Proofs.Tryz.underlying143, rfl, Go.Proofs.Tryz.t143, by kernel_rfl, by kernel_rfl, by kernel_rfl, by kernel_rfl, fun _ => ⟨_, rfl, rfl⟩⟩
theorem row198 : TRow.ok prog 198 ⟨(.int .u8), [(.int .u8 0)], false, 1, 1⟩ := ⟨Go.Proofs.Tryz.underlying198, rfl, Go.Proofs.Tryz.t198, by kernel_rfl, by kernel_rfl, by kernel_rfl, by kernel_rfl, fun _ => ⟨_, rfl, rfl⟩⟩
theorem row204 : TRow.ok prog 204 ⟨(.int .i64), [(.int .i64 0)], false, 1, 8⟩ := ⟨Go.Proofs.Tryz.underlying204, rfl, Go.Proofs.Tryz.t204, by kernel_rfl, by kernel_rfl, by kernel_rfl, by kernel_rfl, fun _ => ⟨_, rfl, rfl⟩⟩
theorem row261 : TRow.ok prog 261 ⟨(.slice 56), [(.slice none 0 0)], false, 1, 24⟩ := ⟨Go.Proofs.Tryz.underlying261, rfl, Go.Proofs.Tryz.t261, by kernel_rfl, by kernel_rfl, by kernel_rfl, by kernel_rfl, fun _ => ⟨_, rfl, rfl⟩⟩
theorem row279 : TRow.ok prog 279 ⟨(.func #[5] #[4] false), [.nilFunc], false, 1, 8⟩ := ⟨Go.Proofs.Tryz.underlying279, rfl, Go.Proofs.Tryz.t279, by kernel_rfl, by kernel_rfl, by kernel_rfl, by kernel_rfl, fun _ => ⟨_, rfl, rfl⟩⟩
theorem row301 : TRow.ok prog 301 ⟨(.array 16 212), [(.int .u32 0), (.int .u32 0), (.int .u32 0), (.int .u32 0), (.int .u32 0), (.int .u32 0), (.int .u32 0), (.int .u32 0), (.int .u32 0), (.int .u32 0), (.int .u32 0), (.int .u32 0), (.int .u32 0), (.int .u32 0), (.int .u32 0), (.int .u32 0)], true, 16, 64⟩ := ⟨Go.Proofs.Tryz.underlying301, rfl, Go.Proofs.Tryz.t301, by kernel_rfl, by kernel_rfl, by kernel_rfl, by kernel_rfl, fun h => by cases h⟩
theorem row98 : TRow.ok prog 98 ⟨(.func #[3] #[] false), [.nilFunc], false, 1, 8⟩ := ⟨Go.Proofs.Tryz.underlying98, rfl, Go.Proofs.Tryz.t98, by kernel_rfl, by kernel_rfl, by kernel_rfl, by kernel_rfl, fun _ => ⟨_, rfl, rfl⟩⟩
theorem row142 : TRow.ok prog 142 ⟨(.pointer 25), [(.pointer none)], false, 1, 8⟩ := ⟨Go.Proofs.Tryz.underlying142, rfl, Go.Proofs.Tryz.t142, by kernel_rfl, by kernel_rfl, by kernel_rfl, by kernel_rfl, fun _ => ⟨_, rfl, rfl⟩⟩
theorem row167 : TRow.ok prog 167 ⟨(.func #[91] #[4] false), [.nilFunc], false, 1, 8⟩ := ⟨Go.Proofs.Tryz.underlying167, rfl, Go.Proofs.Tryz.t167, by kernel_rfl, by kernel_rfl, by kernel_rfl, by kernel_rfl, fun _ => ⟨_, rfl, rfl⟩⟩
theorem row168 : TRow.ok prog 168 ⟨(.func #[173] #[] false), [.nilFunc], false, 1, 8⟩ := ⟨Go.Proofs.Tryz.underlying168, rfl, Go.Proofs.Tryz.t168, by kernel_rfl, by kernel_rfl, by kernel_rfl, by kernel_rfl, fun _ => ⟨_, rfl, rfl⟩⟩
theorem row173 : TRow.ok prog 173 ⟨(.pointer 91), [(.pointer none)], false, 1, 8⟩ := ⟨Go.Proofs.Tryz.underlying173, rfl, Go.Proofs.Tryz.t173, by kernel_rfl, by kernel_rfl, by kernel_rfl, by kernel_rfl, fun _ => ⟨_, rfl, rfl⟩⟩
theorem row230 : TRow.ok prog 230 ⟨(.pointer 53), [(.pointer none)], false, 1, 8⟩ := ⟨Go.Proofs.Tryz.underlying230, rfl, Go.Proofs.Tryz.t230, by kernel_rfl, by kernel_rfl, by kernel_rfl, by kernel_rfl, fun _ => ⟨_, rfl, rfl⟩⟩
theorem row232 : TRow.ok prog 232 ⟨(.pointer 2), [(.pointer none)], false, 1, 8⟩ := ⟨Go.Proofs.Tryz.underlying232, rfl, Go.Proofs.Tryz.t232, by kernel_rfl, by kernel_rfl, by kernel_rfl, by kernel_rfl, fun _ => ⟨_, rfl, rfl⟩⟩
theorem row255 : TRow.ok prog 255 ⟨(.interface #[("As", 257)]), [.nilIface], false, 1, 16⟩ := ⟨Go.Proofs.Tryz.underlying255, rfl, Go.Proofs.Tryz.t255, by kernel_rfl, by kernel_rfl, by kernel_rfl, by kernel_rfl, fun _ => ⟨_, rfl, rfl⟩⟩
theorem row258 : TRow.ok prog 258 ⟨(.interface #[("Unwrap", 259)]), [.nilIface], false, 1, 16⟩ := ⟨Go.Proofs.Tryz.underlying258, rfl, Go.Proofs.Tryz.t258, by kernel_rfl, by kernel_rfl, by kernel_rfl, by kernel_rfl, fun _ => ⟨_, rfl, rfl⟩⟩
theorem row260 : TRow.ok prog 260 ⟨(.interface #[("Unwrap", 262)]), [.nilIface], false, 1, 16⟩ := ⟨Go.Proofs.Tryz.underlying260, rfl, Go.Proofs.Tryz.t260, by kernel_rfl, by kernel_rfl, by kernel_rfl, by kernel_rfl, fun _ => ⟨_, rfl, rfl⟩⟩
theorem row1 : TRow.ok prog 1 ⟨(.func #[] #[] false), [.nilFunc], false, 1, 8⟩ := ⟨Go.Proofs.Tryz.underlying1, rfl, Go.Proofs.Tryz.t1, by kernel_rfl, by kernel_rfl, by kernel_rfl, by kernel_rfl, fun _ => ⟨_, rfl, rfl⟩⟩
theorem row17 : TRow.ok prog 17 ⟨(.pointer 321), [(.pointer none)], false, 1, 8⟩ := ⟨Go.Proofs.Tryz.underlying17, rfl, Go.Proofs.Tryz.t17, by kernel_rfl, by kernel_rfl, by kernel_rfl, by kernel_rfl, fun _ => ⟨_, rfl, rfl⟩⟩
theorem row190 : TRow.ok prog 190 ⟨.unsafePointer, [(.pointer none)], false, 1, 8⟩ := ⟨Go.Proofs.Tryz.underlying190, rfl, Go.Proofs.Tryz.t190, by kernel_rfl, by kernel_rfl, by kernel_rfl, by kernel_rfl, fun _ => ⟨_, rfl, rfl⟩⟩
theorem row191 : TRow.ok prog 191 ⟨(.int .u64), [(.int .u64 0)], false, 1, 8⟩ := ⟨Go.Proofs.Tryz.underlying191, rfl, Go.Proofs.Tryz.t191, by kernel_rfl, by kernel_rfl, by kernel_rfl, by kernel_rfl, fun _ => ⟨_, rfl, rfl⟩⟩
theorem u_int : prog.underlying t_int = some (.int .i64) := Go.Proofs.Tryz.underlying3
theorem u_api_Record : prog.underlying t_api_Record = some (.struct ⟨[⟨"LSN", 3, 0, false, "", "", 0⟩, ⟨"Kind", 41, 1, false, "", "", 8⟩, ⟨"Tx", 3, 2, false, "", "", 16⟩, ⟨"Prev", 3, 3, false, "", "", 24⟩, ⟨"Where", 43, 4, false, "", "", 32⟩, ⟨"Sums", 43, 6, false, "", "", 48⟩, ⟨"Delta", 2, 8, false, "", "", 64⟩, ⟨"Counter", 47, 9, false, "", "", 72⟩, ⟨"Points", 51, 14, false, "", "", 112⟩]⟩) := Go.Proofs.Tryz.underlying53
theorem u_S_int : prog.underlying t_S_int = some (.slice 3) := Go.Proofs.Tryz.underlying35
theorem u_page_Page : prog.underlying t_page_Page = some (.struct ⟨[⟨"Number", 3, 0, false, "", "", 0⟩, ⟨"LSN", 3, 1, false, "", "", 8⟩, ⟨"Counters", 101, 2, false, "", "", 16⟩, ⟨"Groups", 102, 3, false, "", "", 40⟩]⟩) := Go.Proofs.Tryz.underlying104
theorem u_S_api_Record : prog.underlying t_S_api_Record = some (.slice 53) := Go.Proofs.Tryz.underlying22
theorem u_int64 : prog.underlying t_int64 = some (.int .i64) := Go.Proofs.Tryz.underlying2
theorem u_S_uint8 : prog.underlying t_S_uint8 = some (.slice 5) := Go.Proofs.Tryz.underlying162
theorem u_uint64 : prog.underlying t_uint64 = some (.int .u64) := Go.Proofs.Tryz.underlying111
theorem u_bool : prog.underlying t_bool = some .bool := Go.Proofs.Tryz.underlying4
theorem u_api_Slot : prog.underlying t_api_Slot = some (.struct ⟨[⟨"Page", 3, 0, false, "", "", 0⟩, ⟨"Index", 3, 1, false, "", "", 8⟩]⟩) := Go.Proofs.Tryz.underlying43
theorem u_api_Errno : prog.underlying t_api_Errno = some (.int .i64) := Go.Proofs.Tryz.underlying25
theorem u_api_Counter : prog.underlying t_api_Counter = some (.struct ⟨[⟨"ID", 3, 0, false, "", "", 0⟩, ⟨"Group", 3, 1, false, "", "", 8⟩, ⟨"Bounds", 45, 2, false, "", "", 16⟩, ⟨"Value", 2, 4, false, "", "", 32⟩]⟩) := Go.Proofs.Tryz.underlying47
theorem u_api_Kind : prog.underlying t_api_Kind = some (.int .i64) := Go.Proofs.Tryz.underlying41
theorem u_api_Live : prog.underlying t_api_Live = some (.struct ⟨[⟨"Tx", 3, 0, false, "", "", 0⟩, ⟨"Last", 3, 1, false, "", "", 8⟩, ⟨"Committed", 4, 2, false, "", "", 16⟩, ⟨"Undoing", 4, 3, false, "", "", 17⟩]⟩) := Go.Proofs.Tryz.underlying91
theorem u_quotaref18_Story : prog.underlying t_quotaref18_Story = some (.struct ⟨[⟨"Pages", 3, 0, false, "", "", 0⟩, ⟨"R", 22, 1, false, "", "", 8⟩, ⟨"L", 73, 2, false, "", "", 32⟩, ⟨"Groups", 74, 3, false, "", "", 56⟩, ⟨"IDs", 35, 4, false, "", "", 80⟩, ⟨"Live", 75, 5, false, "", "", 104⟩, ⟨"Next", 3, 6, false, "", "", 128⟩, ⟨"Settled", 76, 7, false, "", "", 136⟩]⟩) := Go.Proofs.Tryz.underlying78
theorem u_error : prog.underlying t_error = some (.interface #[("Error", 308)]) := Go.Proofs.Tryz.underlying56
theorem u_S_api_Group : prog.underlying t_S_api_Group = some (.slice 189) := Go.Proofs.Tryz.underlying102
theorem u_S_api_Counter : prog.underlying t_S_api_Counter = some (.slice 47) := Go.Proofs.Tryz.underlying101
theorem u_S_quotaref18_Open : prog.underlying t_S_quotaref18_Open = some (.slice 156) := Go.Proofs.Tryz.underlying75
theorem u_P_sectors_Device : prog.underlying t_P_sectors_Device = some (.pointer 293) := Go.Proofs.Tryz.underlying158
theorem u_api_Shape : prog.underlying t_api_Shape = some (.struct ⟨[⟨"Pages", 3, 0, false, "", "", 0⟩, ⟨"Log", 3, 1, false, "", "", 8⟩, ⟨"Frames", 3, 2, false, "", "", 16⟩]⟩) := Go.Proofs.Tryz.underlying33
theorem u_uint8 : prog.underlying t_uint8 = some (.int .u8) := Go.Proofs.Tryz.underlying5
theorem u_api_Points : prog.underlying t_api_Points = some (.struct ⟨[⟨"Live", 48, 0, false, "", "", 0⟩, ⟨"Dirty", 49, 1, false, "", "", 24⟩, ⟨"Next", 3, 2, false, "", "", 48⟩]⟩) := Go.Proofs.Tryz.underlying51
theorem u_S_uint64 : prog.underlying t_S_uint64 = some (.slice 111) := Go.Proofs.Tryz.underlying243
theorem u_quotaref18_Open : prog.underlying t_quotaref18_Open = some (.struct ⟨[⟨"Tx", 3, 0, false, "", "", 0⟩, ⟨"Last", 3, 1, false, "", "", 8⟩, ⟨"Committed", 4, 2, false, "", "", 16⟩, ⟨"Nets", 76, 3, false, "", "", 24⟩, ⟨"Holds", 154, 4, false, "", "", 48⟩]⟩) := Go.Proofs.Tryz.underlying156
theorem u_P_log_Log : prog.underlying t_P_log_Log = some (.pointer 161) := Go.Proofs.Tryz.underlying81
theorem u_interval_wide : prog.underlying t_interval_wide = some (.struct ⟨[⟨"high", 2, 0, false, "", "quota/interval", 0⟩, ⟨"low", 111, 1, false, "", "quota/interval", 8⟩]⟩) := Go.Proofs.Tryz.underlying113
theorem u_log_Log : prog.underlying t_log_Log = some (.struct ⟨[⟨"d", 158, 0, false, "", "quota/log", 0⟩, ⟨"first", 3, 1, false, "", "quota/log", 8⟩, ⟨"count", 3, 2, false, "", "quota/log", 16⟩, ⟨"records", 22, 3, false, "", "quota/log", 24⟩, ⟨"bytes", 159, 4, false, "", "quota/log", 48⟩, ⟨"forced", 3, 5, false, "", "quota/log", 72⟩, ⟨"err", 56, 6, false, "", "quota/log", 80⟩]⟩) := Go.Proofs.Tryz.underlying161
theorem u_sectors_Device : prog.underlying t_sectors_Device = some (.struct ⟨[⟨"image", 162, 0, false, "", "quota/sectors", 0⟩, ⟨"pending", 289, 1, false, "", "quota/sectors", 24⟩, ⟨"step", 3, 2, false, "", "quota/sectors", 48⟩, ⟨"loss", 291, 3, false, "", "quota/sectors", 56⟩, ⟨"down", 4, 6, false, "", "quota/sectors", 96⟩, ⟨"calls", 3, 7, false, "", "quota/sectors", 104⟩]⟩) := Go.Proofs.Tryz.underlying293
theorem u_S_api_Live : prog.underlying t_S_api_Live = some (.slice 91) := Go.Proofs.Tryz.underlying48
theorem u_S_api_Dirty : prog.underlying t_S_api_Dirty = some (.slice 219) := Go.Proofs.Tryz.underlying49
theorem u_S_S_api_Record : prog.underlying t_S_S_api_Record = some (.slice 22) := Go.Proofs.Tryz.underlying40
theorem u_pool_Pool : prog.underlying t_pool_Pool = some (.struct ⟨[⟨"d", 158, 0, false, "", "quota/pool", 0⟩, ⟨"l", 81, 1, false, "", "quota/pool", 8⟩, ⟨"shape", 33, 2, false, "", "quota/pool", 16⟩, ⟨"held", 175, 5, false, "", "quota/pool", 40⟩, ⟨"clock", 3, 6, false, "", "quota/pool", 48⟩, ⟨"ended", 4, 7, false, "", "quota/pool", 56⟩]⟩) := Go.Proofs.Tryz.underlying177
theorem u_P_pool_Pool : prog.underlying t_P_pool_Pool = some (.pointer 177) := Go.Proofs.Tryz.underlying82
theorem u_uint32 : prog.underlying t_uint32 = some (.int .u32) := Go.Proofs.Tryz.underlying212
theorem u_slices_xorshift : prog.underlying t_slices_xorshift = some (.int .u64) := Go.Proofs.Tryz.underlying264
theorem u_S_api_Pending : prog.underlying t_S_api_Pending = some (.slice 298) := Go.Proofs.Tryz.underlying289
theorem u_S_quotaref18_Place : prog.underlying t_S_quotaref18_Place = some (.slice 215) := Go.Proofs.Tryz.underlying73
theorem u_api_Pending : prog.underlying t_api_Pending = some (.struct ⟨[⟨"Sector", 3, 0, false, "", "", 0⟩, ⟨"Bytes", 162, 1, false, "", "", 8⟩]⟩) := Go.Proofs.Tryz.underlying298
theorem u_S_int64 : prog.underlying t_S_int64 = some (.slice 2) := Go.Proofs.Tryz.underlying76
theorem u_txns_move : prog.underlying t_txns_move = some (.struct ⟨[⟨"may", 167, 0, false, "", "quota/txns", 0⟩, ⟨"then", 168, 1, false, "", "quota/txns", 8⟩]⟩) := Go.Proofs.Tryz.underlying170
theorem u_M_int_P_pool_frame : prog.underlying t_M_int_P_pool_frame = some (.map 3 134) := Go.Proofs.Tryz.underlying175
theorem u_pool_frame : prog.underlying t_pool_frame = some (.struct ⟨[⟨"state", 104, 0, false, "", "quota/pool", 0⟩, ⟨"pins", 3, 4, false, "", "quota/pool", 64⟩, ⟨"dirty", 4, 5, false, "", "quota/pool", 72⟩, ⟨"since", 3, 6, false, "", "quota/pool", 80⟩, ⟨"used", 3, 7, false, "", "quota/pool", 88⟩]⟩) := Go.Proofs.Tryz.underlying139
theorem u_quotaref10_Wide : prog.underlying t_quotaref10_Wide = some (.struct ⟨[⟨"H", 2, 0, false, "", "", 0⟩, ⟨"L", 2, 1, false, "", "", 8⟩]⟩) := Go.Proofs.Tryz.underlying70
theorem u_api_Fault : prog.underlying t_api_Fault = some (.struct ⟨[⟨"Call", 9, 0, false, "", "", 0⟩, ⟨"At", 3, 1, false, "", "", 16⟩, ⟨"Err", 56, 2, false, "", "", 24⟩]⟩) := Go.Proofs.Tryz.underlying88
theorem u_interface : prog.underlying t_interface = some (.interface #[]) := Go.Proofs.Tryz.underlying20
theorem u_undo_run : prog.underlying t_undo_run = some (.struct ⟨[⟨"log", 81, 0, false, "", "quota/undo", 0⟩, ⟨"table", 83, 1, false, "", "quota/undo", 8⟩, ⟨"tx", 3, 2, false, "", "quota/undo", 16⟩]⟩) := Go.Proofs.Tryz.underlying96
theorem u_reflectlite_Value : prog.underlying t_reflectlite_Value = some (.struct ⟨[⟨"typ_", 17, 0, false, "", "internal/reflectlite", 0⟩, ⟨"ptr", 190, 1, false, "", "internal/reflectlite", 8⟩, ⟨"flag", 191, 2, true, "", "internal/reflectlite", 16⟩]⟩) := Go.Proofs.Tryz.underlying193
theorem u_quotalaw19_Life : prog.underlying t_quotalaw19_Life = some (.struct ⟨[⟨"Shape", 33, 0, false, "", "", 0⟩, ⟨"Deeds", 34, 3, false, "", "", 24⟩, ⟨"Old", 35, 4, false, "", "", 48⟩]⟩) := Go.Proofs.Tryz.underlying37
theorem u_string : prog.underlying t_string = some .string := Go.Proofs.Tryz.underlying9
theorem u_S_S_uint8 : prog.underlying t_S_S_uint8 = some (.slice 162) := Go.Proofs.Tryz.underlying159
theorem u_api_Group : prog.underlying t_api_Group = some (.struct ⟨[⟨"ID", 3, 0, false, "", "", 0⟩, ⟨"Sum", 2, 1, false, "", "", 8⟩]⟩) := Go.Proofs.Tryz.underlying189
theorem u_api_Loss : prog.underlying t_api_Loss = some (.struct ⟨[⟨"Keep", 243, 0, false, "", "", 0⟩, ⟨"Torn", 3, 1, false, "", "", 24⟩, ⟨"Offset", 3, 2, false, "", "", 32⟩]⟩) := Go.Proofs.Tryz.underlying291
theorem u_P_quotaref18_Story : prog.underlying t_P_quotaref18_Story = some (.pointer 78) := Go.Proofs.Tryz.underlying79
theorem u_api_Dirty : prog.underlying t_api_Dirty = some (.struct ⟨[⟨"Page", 3, 0, false, "", "", 0⟩, ⟨"Since", 3, 1, false, "", "", 8⟩]⟩) := Go.Proofs.Tryz.underlying219
theorem u_quotaref18_Deed : prog.underlying t_quotaref18_Deed = some (.struct ⟨[⟨"Kind", 3, 0, false, "", "", 0⟩, ⟨"A", 3, 1, false, "", "", 8⟩, ⟨"B", 3, 2, false, "", "", 16⟩, ⟨"D", 2, 3, false, "", "", 24⟩]⟩) := Go.Proofs.Tryz.underlying121
theorem u_M_int_api_Live : prog.underlying t_M_int_api_Live = some (.map 3 91) := Go.Proofs.Tryz.underlying124
theorem u_P_field_Writer : prog.underlying t_P_field_Writer = some (.pointer 270) := Go.Proofs.Tryz.underlying223
theorem u_txns_Table : prog.underlying t_txns_Table = some (.struct ⟨[⟨"live", 124, 0, false, "", "quota/txns", 0⟩, ⟨"next", 3, 1, false, "", "quota/txns", 8⟩]⟩) := Go.Proofs.Tryz.underlying126
theorem u_S_P_int : prog.underlying t_S_P_int = some (.slice 231) := Go.Proofs.Tryz.underlying226
theorem u_M_int_api_Record : prog.underlying t_M_int_api_Record = some (.map 3 53) := Go.Proofs.Tryz.underlying60
theorem u_api_Range : prog.underlying t_api_Range = some (.struct ⟨[⟨"Lo", 2, 0, false, "", "", 0⟩, ⟨"Hi", 2, 1, false, "", "", 8⟩]⟩) := Go.Proofs.Tryz.underlying45
theorem u_uint : prog.underlying t_uint = some (.int .u64) := Go.Proofs.Tryz.underlying118
theorem u_S_api_Slot : prog.underlying t_S_api_Slot = some (.slice 43) := Go.Proofs.Tryz.underlying74
theorem u_P_int : prog.underlying t_P_int = some (.pointer 3) := Go.Proofs.Tryz.underlying231
theorem u_P_txns_Table : prog.underlying t_P_txns_Table = some (.pointer 126) := Go.Proofs.Tryz.underlying83
theorem u_P_api_Fault : prog.underlying t_P_api_Fault = some (.pointer 88) := Go.Proofs.Tryz.underlying86
theorem u_quotaref18_Place : prog.underlying t_quotaref18_Place = some (.struct ⟨[⟨"C", 47, 0, false, "", "", 0⟩, ⟨"Where", 43, 5, false, "", "", 40⟩, ⟨"Sums", 43, 7, false, "", "", 56⟩]⟩) := Go.Proofs.Tryz.underlying215
theorem u_field_Writer : prog.underlying t_field_Writer = some (.struct ⟨[⟨"b", 162, 0, false, "", "quota/field", 0⟩]⟩) := Go.Proofs.Tryz.underlying270
theorem u_log_refusal : prog.underlying t_log_refusal = some (.struct ⟨[⟨"at", 3, 0, false, "", "quota/log", 0⟩, ⟨"e", 25, 1, false, "", "quota/log", 8⟩]⟩) := Go.Proofs.Tryz.underlying303
theorem u_undo_refusal : prog.underlying t_undo_refusal = some (.struct ⟨[⟨"err", 25, 0, false, "", "quota/undo", 0⟩]⟩) := Go.Proofs.Tryz.underlying85
theorem u_twin_refusal : prog.underlying t_twin_refusal = some (.struct ⟨[⟨"err", 25, 0, false, "", "quota/twin", 0⟩]⟩) := Go.Proofs.Tryz.underlying276
theorem u_S_bool : prog.underlying t_S_bool = some (.slice 4) := Go.Proofs.Tryz.underlying154
theorem u_P_pool_frame : prog.underlying t_P_pool_frame = some (.pointer 139) := Go.Proofs.Tryz.underlying134
theorem u_reflectlite_Type : prog.underlying t_reflectlite_Type = some (.interface #[("AssignableTo", 200), ("Comparable", 23), ("Elem", 197), ("Implements", 200), ("Kind", 199), ("Name", 308), ("PkgPath", 308), ("Size", 322), ("String", 308), ("internal/reflectlite.common", 314), ("internal/reflectlite.uncommon", 323)]) := Go.Proofs.Tryz.underlying196
theorem u_S_quotaref18_Deed : prog.underlying t_S_quotaref18_Deed = some (.slice 121) := Go.Proofs.Tryz.underlying34
theorem u_funcint64_int64_int64_api_Errno : prog.underlying t_funcint64_int64_int64_api_Errno = some (.func #[2, 2] #[2, 25] false) := Go.Proofs.Tryz.underlying63
theorem u_S_P_int64 : prog.underlying t_S_P_int64 = some (.slice 232) := Go.Proofs.Tryz.underlying227
theorem u_iter_Seq_int : prog.underlying t_iter_Seq_int = some (.func #[117] #[] false) := Go.Proofs.Tryz.underlying66
theorem u_P_page_Page : prog.underlying t_P_page_Page = some (.pointer 104) := Go.Proofs.Tryz.underlying145
theorem u_funcint64_int64_api_Errno : prog.underlying t_funcint64_int64_api_Errno = some (.func #[2] #[2, 25] false) := Go.Proofs.Tryz.underlying143
theorem u_abi_Kind : prog.underlying t_abi_Kind = some (.int .u8) := Go.Proofs.Tryz.underlying198
theorem u_slices_sortedHint : prog.underlying t_slices_sortedHint = some (.int .i64) := Go.Proofs.Tryz.underlying204
theorem u_S_error : prog.underlying t_S_error = some (.slice 56) := Go.Proofs.Tryz.underlying261
theorem u_funcuint8_bool : prog.underlying t_funcuint8_bool = some (.func #[5] #[4] false) := Go.Proofs.Tryz.underlying279
theorem u_16_uint32 : prog.underlying t_16_uint32 = some (.array 16 212) := Go.Proofs.Tryz.underlying301
theorem u_funcint : prog.underlying t_funcint = some (.func #[3] #[] false) := Go.Proofs.Tryz.underlying98
theorem u_P_api_Errno : prog.underlying t_P_api_Errno = some (.pointer 25) := Go.Proofs.Tryz.underlying142
theorem u_funcapi_Live_bool : prog.underlying t_funcapi_Live_bool = some (.func #[91] #[4] false) := Go.Proofs.Tryz.underlying167
theorem u_funcapi_Live : prog.underlying t_funcapi_Live = some (.func #[173] #[] false) := Go.Proofs.Tryz.underlying168
theorem u_P_api_Live : prog.underlying t_P_api_Live = some (.pointer 91) := Go.Proofs.Tryz.underlying173
theorem u_P_api_Record : prog.underlying t_P_api_Record = some (.pointer 53) := Go.Proofs.Tryz.underlying230
theorem u_P_int64 : prog.underlying t_P_int64 = some (.pointer 2) := Go.Proofs.Tryz.underlying232
theorem u_interface_Asinterface_bool : prog.underlying t_interface_Asinterface_bool = some (.interface #[("As", 257)]) := Go.Proofs.Tryz.underlying255
theorem u_interface_Unwrap_error : prog.underlying t_interface_Unwrap_error = some (.interface #[("Unwrap", 259)]) := Go.Proofs.Tryz.underlying258
theorem u_interface_Unwrap_S_error : prog.underlying t_interface_Unwrap_S_error = some (.interface #[("Unwrap", 262)]) := Go.Proofs.Tryz.underlying260
theorem u_func : prog.underlying t_func = some (.func #[] #[] false) := Go.Proofs.Tryz.underlying1
theorem u_P_abi_Type : prog.underlying t_P_abi_Type = some (.pointer 321) := Go.Proofs.Tryz.underlying17
theorem u_unsafe_Pointer : prog.underlying t_unsafe_Pointer = some .unsafePointer := Go.Proofs.Tryz.underlying190
theorem u_reflectlite_flag : prog.underlying t_reflectlite_flag = some (.int .u64) := Go.Proofs.Tryz.underlying191
theorem tab_ok : Tab.ok tab prog := findT_ok rows (⟨row3, row53, row35, row104, row22, row2, row162, row111, row4, row43, row25, row47, row41, row91, row78, row56, row102, row101, row75, row158, row33, row5, row51, row243, row156, row81, row113, row161, row293, row48, row49, row40, row177, row82, row212, row264, row289, row73, row298, row76, row170, row175, row139, row70, row88, row20, row96, row193, row37, row9, row159, row189, row291, row79, row219, row121, row124, row223, row126, row226, row60, row45, row118, row74, row231, row83, row86, row215, row270, row303, row85, row276, row154, row134, row196, row34, row63, row227, row66, row145, row143, row198, row204, row261, row279, row301, row98, row142, row167, row168, row173, row230, row232, row255, row258, row260, row1, row17, row190, row191, trivial⟩)
theorem mixed : prog.follows .mixedOrders = true := by kernel_rfl
theorem f_math_bits_Add64.fn : prog.funcs[f_math_bits_Add64]? = some Go.Proofs.Tryz.f60 := Go.Proofs.Tryz.func60
theorem f_math_bits_Sub64.fn : prog.funcs[f_math_bits_Sub64]? = some Go.Proofs.Tryz.f140 := Go.Proofs.Tryz.func140
noncomputable abbrev f_quotalaw19_UndoLefts.def : Func := Go.Proofs.Tryz.f3
theorem f_quotalaw19_UndoLefts.fn : prog.funcs[f_quotalaw19_UndoLefts]? = some f_quotalaw19_UndoLefts.def := Go.Proofs.Tryz.func3
theorem f_quotalaw19_UndoLefts.ok : Callable prog f_quotalaw19_UndoLefts := callable_of Go.Proofs.Tryz.func3 (by kernel_rfl) rfl
def f_quotalaw19_UndoLefts.live : Nat → Option (List Nat) := fun i => match i with
  | 0 => some [0, 1]
  | 1 => some [0, 1, 11]
  | 2 => some [4]
  | 3 => some [0, 1, 5]
  | 4 => some [0, 1, 5, 6, 7]
  | 5 => some [0, 5, 6, 7, 8, 9]
  | 6 => some [4]
  | _ => none
theorem f_quotalaw19_UndoLefts.does {W : World} {H : HProp} {R : Ending → HProp → Prop} (a0 a1 : Value) (h : exec prog W tab 39 f_quotalaw19_UndoLefts.live (codeOf Go.Proofs.Tryz.f3) (bodyQ prog W tab [.tmp 4] R) (argFr 0 [a0, a1]) [] H) : Does prog W f_quotalaw19_UndoLefts ⟨[a0, a1]⟩ H R :=
  Does.of_exec tab_ok f_quotalaw19_UndoLefts.live Go.Proofs.Tryz.func3 rfl rfl rfl (by simp) h
noncomputable abbrev f_quotalaw19_UndoOwn.def : Func := Go.Proofs.Tryz.f4
theorem f_quotalaw19_UndoOwn.fn : prog.funcs[f_quotalaw19_UndoOwn]? = some f_quotalaw19_UndoOwn.def := Go.Proofs.Tryz.func4
theorem f_quotalaw19_UndoOwn.ok : Callable prog f_quotalaw19_UndoOwn := callable_of Go.Proofs.Tryz.func4 (by kernel_rfl) rfl
def f_quotalaw19_UndoOwn.live : Nat → Option (List Nat) := fun i => match i with
  | 0 => some [1, 2]
  | 1 => some [1, 2, 25]
  | 2 => some [4]
  | 3 => some [1, 5]
  | 4 => some [1, 5, 6, 7]
  | 5 => some [1, 5, 6, 7, 8]
  | 6 => some [1, 5, 6, 7, 8, 32]
  | 7 => some [1, 5, 6, 7, 8]
  | 8 => some [1, 5, 6, 7, 8, 9]
  | 9 => some [1, 5, 6, 7, 8, 9, 42]
  | 10 => some [1, 5, 6, 7, 8, 9]
  | 11 => some [1, 5, 6, 7, 8, 9, 10]
  | 12 => some [1, 5, 6, 7, 8, 9, 10, 46]
  | 13 => some [1, 5, 6, 7, 8, 9, 10]
  | 14 => some [1, 5, 6, 7, 8, 9, 10, 11]
  | 15 => some [1, 5, 6, 7, 8, 9, 10, 11, 13]
  | 16 => some [1, 5, 6, 7, 8, 9, 10, 11, 71]
  | 17 => some [4]
  | 18 => some [1, 5, 6, 7, 8, 9, 10, 11, 15]
  | 19 => some [1, 5, 6, 7, 8, 9, 10, 11, 15]
  | 20 => some [1, 5, 6, 7, 8, 9, 10]
  | 21 => some [1, 5, 6, 7, 8, 16]
  | 22 => some [1, 5, 6, 7, 8, 16, 85]
  | 23 => some [1, 5, 6, 7, 8, 16]
  | 24 => some [1, 5, 6, 7, 8, 16, 93]
  | 25 => some [1, 5, 6, 7, 8, 16]
  | 26 => some [6, 7, 17]
  | 27 => some [6, 7, 17, 108]
  | 28 => some [6, 7, 17]
  | 29 => some [6, 7, 17, 120]
  | 30 => some [4]
  | 31 => some [6, 18]
  | 32 => some [6, 18, 124]
  | 33 => some [6, 18]
  | 34 => some [6, 18, 19]
  | 35 => some [6, 18, 19, 133]
  | 36 => some [6, 18, 19]
  | 37 => some [6, 18, 19]
  | 38 => some [6, 20]
  | 39 => some [6, 20, 21]
  | 40 => some [6, 20, 21, 148]
  | 41 => some [6, 20, 21]
  | 42 => some [6, 20, 21]
  | 43 => some [6, 20, 22]
  | 44 => some [6, 20, 22, 166]
  | 45 => some [6, 20, 22]
  | 46 => some [6, 20, 22, 23]
  | 47 => some [6, 20, 22, 23, 175]
  | 48 => some [6, 20, 22, 23]
  | 49 => some [6, 20, 22, 23, 210]
  | 50 => some [4]
  | 51 => some [4]
  | _ => none
theorem f_quotalaw19_UndoOwn.does {W : World} {H : HProp} {R : Ending → HProp → Prop} (a0 a1 : Value) (h : exec prog W tab 211 f_quotalaw19_UndoOwn.live (codeOf Go.Proofs.Tryz.f4) (bodyQ prog W tab [.tmp 4] R) (argFr 0 [a0, a1]) [] H) : Does prog W f_quotalaw19_UndoOwn ⟨[a0, a1]⟩ H R :=
  Does.of_exec tab_ok f_quotalaw19_UndoOwn.live Go.Proofs.Tryz.func4 rfl rfl rfl (by simp) h
def f_quotalaw19_UndoOwn.plan3 : List Nat := [0, 1, 2, 3, 4, 5]
def f_quotalaw19_UndoOwn.last3 : List Nat := [3, 4, 5]
def f_quotalaw19_UndoOwn.plan15 : List Nat := [0, 2, 3, 4, 5, 1, 6, 7, 8, 9, 10, 11]
def f_quotalaw19_UndoOwn.last15 : List Nat := [11]
def f_quotalaw19_UndoOwn.plan29 : List Nat := [0, 1, 2, 3, 4, 5, 6, 7, 8, 9]
def f_quotalaw19_UndoOwn.last29 : List Nat := [8, 9]
noncomputable abbrev f_quotalaw19_first.def : Func := Go.Proofs.Tryz.f5
theorem f_quotalaw19_first.fn : prog.funcs[f_quotalaw19_first]? = some f_quotalaw19_first.def := Go.Proofs.Tryz.func5
theorem f_quotalaw19_first.ok : Callable prog f_quotalaw19_first := callable_of Go.Proofs.Tryz.func5 (by kernel_rfl) rfl
def f_quotalaw19_first.live : Nat → Option (List Nat) := fun i => match i with
  | 0 => some []
  | 1 => some [1]
  | 2 => some [1, 2, 3]
  | 3 => some [2, 3, 4, 5]
  | 4 => some [2, 3, 4, 5, 6, 7]
  | 5 => some [0]
  | _ => none
theorem f_quotalaw19_first.does {W : World} {H : HProp} {R : Ending → HProp → Prop} (h : exec prog W tab 81 f_quotalaw19_first.live (codeOf Go.Proofs.Tryz.f5) (bodyQ prog W tab [.tmp 0] R) (argFr 0 []) [] H) : Does prog W f_quotalaw19_first ⟨[]⟩ H R :=
  Does.of_exec tab_ok f_quotalaw19_first.live Go.Proofs.Tryz.func5 rfl rfl rfl (by simp) h
noncomputable abbrev f_quotalaw19_lent.def : Func := Go.Proofs.Tryz.f6
theorem f_quotalaw19_lent.fn : prog.funcs[f_quotalaw19_lent]? = some f_quotalaw19_lent.def := Go.Proofs.Tryz.func6
theorem f_quotalaw19_lent.ok : Callable prog f_quotalaw19_lent := callable_of Go.Proofs.Tryz.func6 (by kernel_rfl) rfl
def f_quotalaw19_lent.live : Nat → Option (List Nat) := fun i => match i with
  | 0 => some [0]
  | 1 => some [0, 3]
  | 2 => some [0, 3]
  | 3 => some [0, 3]
  | 4 => some [2]
  | _ => none
theorem f_quotalaw19_lent.does {W : World} {H : HProp} {R : Ending → HProp → Prop} (a0 : Value) (h : exec prog W tab 15 f_quotalaw19_lent.live (codeOf Go.Proofs.Tryz.f6) (bodyQ prog W tab [.tmp 2] R) (argFr 0 [a0]) [] H) : Does prog W f_quotalaw19_lent ⟨[a0]⟩ H R :=
  Does.of_exec tab_ok f_quotalaw19_lent.live Go.Proofs.Tryz.func6 rfl rfl rfl (by simp) h
noncomputable abbrev f_undo_Left.def : Func := Go.Proofs.Tryz.f7
theorem f_undo_Left.fn : prog.funcs[f_undo_Left]? = some f_undo_Left.def := Go.Proofs.Tryz.func7
theorem f_undo_Left.ok : Callable prog f_undo_Left := callable_of Go.Proofs.Tryz.func7 (by kernel_rfl) rfl
def f_undo_Left.live : Nat → Option (List Nat) := fun i => match i with
  | 0 => some [0, 1]
  | 1 => some [0, 1, 21]
  | 2 => some [4, 5]
  | 3 => some [0, 1, 6]
  | 4 => some [1, 6, 23, 24, 25]
  | 5 => some [1, 6, 23, 24, 25, 26]
  | 6 => some [1, 6, 8, 23, 24, 25]
  | 7 => some [1, 6, 8, 23, 24, 25, 32]
  | 8 => some [1, 6, 8, 9, 10, 23, 24, 25]
  | 9 => some [1, 6, 8, 9, 10, 23, 24, 25, 42]
  | 10 => some [1, 6, 8, 9, 10, 23, 24, 25, 42, 43]
  | 11 => some [1, 6, 8, 11, 12, 23, 24, 25]
  | 12 => some [1, 6, 8, 11, 12, 23, 24, 25, 54]
  | 13 => some [4, 5]
  | 14 => some [1, 6, 23, 24, 25]
  | 15 => some [1, 6, 8, 9, 10, 23, 24, 25, 42, 71]
  | 16 => some [1, 6, 8, 9, 23, 24, 25, 74]
  | 17 => some [4, 5]
  | 18 => some [1, 6, 8, 23, 24, 25, 93]
  | 19 => some [4, 5]
  | 20 => some [1, 6, 23, 24, 25]
  | 21 => some [1, 6, 23, 24, 25, 98]
  | 22 => some [1, 6, 23, 24, 25]
  | 23 => some [1, 6, 23, 24, 25]
  | 24 => some [6, 13]
  | 25 => some [6, 13, 104, 105, 106]
  | 26 => some [6, 13, 104, 105, 106, 107]
  | 27 => some [6, 13, 15, 104, 105, 106]
  | 28 => some [6, 13, 104, 105, 106]
  | 29 => some [6, 13, 104, 105, 106]
  | 30 => some [4, 5]
  | _ => none
theorem f_undo_Left.does {W : World} {H : HProp} {R : Ending → HProp → Prop} (a0 a1 : Value) (h : exec prog W tab 118 f_undo_Left.live (codeOf Go.Proofs.Tryz.f7) (bodyQ prog W tab [.tmp 4, .tmp 5] R) (argFr 0 [a0, a1]) [] H) : Does prog W f_undo_Left ⟨[a0, a1]⟩ H R :=
  Does.of_exec tab_ok f_undo_Left.live Go.Proofs.Tryz.func7 rfl rfl rfl (by simp) h
noncomputable abbrev f_quotaref19_Left.def : Func := Go.Proofs.Tryz.f8
theorem f_quotaref19_Left.fn : prog.funcs[f_quotaref19_Left]? = some f_quotaref19_Left.def := Go.Proofs.Tryz.func8
theorem f_quotaref19_Left.ok : Callable prog f_quotaref19_Left := callable_of Go.Proofs.Tryz.func8 (by kernel_rfl) rfl
def f_quotaref19_Left.live : Nat → Option (List Nat) := fun i => match i with
  | 0 => some [0, 1]
  | 1 => some [0, 1, 17]
  | 2 => some [4, 5]
  | 3 => some [0, 1, 6]
  | 4 => some [0, 1, 6, 7]
  | 5 => some [0, 1, 6, 7, 21]
  | 6 => some [0, 1, 6, 7]
  | 7 => some [0, 1, 6, 7, 8]
  | 8 => some [0, 1, 6, 7, 8, 31]
  | 9 => some [0, 1, 6, 7, 8, 9]
  | 10 => some [0, 1, 6, 7, 8, 9, 38]
  | 11 => some [0, 1, 6, 7, 8, 9, 38, 39]
  | 12 => some [0, 1, 6, 7, 8, 9, 10]
  | 13 => some [0, 1, 6, 7, 8, 9, 10, 54]
  | 14 => some [0, 1, 6, 7]
  | 15 => some [0, 1, 6, 7, 9, 10, 69]
  | 16 => some [4, 5]
  | 17 => some [0, 1, 6, 7, 9, 10]
  | 18 => some [0, 1, 6, 7]
  | 19 => some [0, 1, 6, 7, 8, 9, 38, 83]
  | 20 => some [0, 1, 6, 7, 8, 9, 86]
  | 21 => some [4, 5]
  | 22 => some [0, 1, 6, 7, 9, 114]
  | 23 => some [4, 5]
  | 24 => some [0, 1, 6, 7, 9, 11]
  | 25 => some [0, 1, 6, 7, 9, 11]
  | 26 => some [0, 1, 6, 7]
  | 27 => some [0, 1, 6, 7, 126]
  | 28 => some [0, 1, 6, 7]
  | 29 => some [4, 5]
  | _ => none
theorem f_quotaref19_Left.does {W : World} {H : HProp} {R : Ending → HProp → Prop} (a0 a1 : Value) (h : exec prog W tab 130 f_quotaref19_Left.live (codeOf Go.Proofs.Tryz.f8) (bodyQ prog W tab [.tmp 4, .tmp 5] R) (argFr 0 [a0, a1]) [] H) : Does prog W f_quotaref19_Left ⟨[a0, a1]⟩ H R :=
  Does.of_exec tab_ok f_quotaref19_Left.live Go.Proofs.Tryz.func8 rfl rfl rfl (by simp) h
def f_quotaref19_Left.plan15 : List Nat := [0, 1, 2, 3, 4, 6, 7, 5, 8, 9, 10]
def f_quotaref19_Left.last15 : List Nat := [8, 9, 10]
def f_quotaref19_Left.plan17 : List Nat := [0, 1, 2, 3, 4, 5, 6, 7, 8, 9]
def f_quotaref19_Left.last17 : List Nat := [7, 8, 9]
def f_quotaref19_Left.plan22 : List Nat := [0, 1, 2, 3, 4, 5, 6, 7, 8, 9, 10, 11, 12, 13, 14, 15, 16, 17, 18, 19, 20, 21, 22, 23, 24, 25, 26, 27]
def f_quotaref19_Left.last22 : List Nat := [26, 27]
noncomputable abbrev f_quotalaw19_same.def : Func := Go.Proofs.Tryz.f9
theorem f_quotalaw19_same.fn : prog.funcs[f_quotalaw19_same]? = some f_quotalaw19_same.def := Go.Proofs.Tryz.func9
theorem f_quotalaw19_same.ok : Callable prog f_quotalaw19_same := callable_of Go.Proofs.Tryz.func9 (by kernel_rfl) rfl
def f_quotalaw19_same.live : Nat → Option (List Nat) := fun i => match i with
  | 0 => some [0, 1]
  | 1 => some [0, 1, 10]
  | 2 => some [4]
  | 3 => some [0, 1, 5]
  | 4 => some [0, 1, 5, 14]
  | 5 => some [0, 1, 5]
  | 6 => some [0, 1, 5, 26]
  | 7 => some [4]
  | 8 => some [4]
  | _ => none
theorem f_quotalaw19_same.does {W : World} {H : HProp} {R : Ending → HProp → Prop} (a0 a1 : Value) (h : exec prog W tab 27 f_quotalaw19_same.live (codeOf Go.Proofs.Tryz.f9) (bodyQ prog W tab [.tmp 4] R) (argFr 0 [a0, a1]) [] H) : Does prog W f_quotalaw19_same ⟨[a0, a1]⟩ H R :=
  Does.of_exec tab_ok f_quotalaw19_same.live Go.Proofs.Tryz.func9 rfl rfl rfl (by simp) h
def f_quotalaw19_same.plan6 : List Nat := [0, 1, 2, 3, 4, 5, 6, 7, 8, 9]
def f_quotalaw19_same.last6 : List Nat := [8, 9]
noncomputable abbrev f_quotalaw19_kept.def : Func := Go.Proofs.Tryz.f10
theorem f_quotalaw19_kept.fn : prog.funcs[f_quotalaw19_kept]? = some f_quotalaw19_kept.def := Go.Proofs.Tryz.func10
theorem f_quotalaw19_kept.ok : Callable prog f_quotalaw19_kept := callable_of Go.Proofs.Tryz.func10 (by kernel_rfl) rfl
def f_quotalaw19_kept.live : Nat → Option (List Nat) := fun i => match i with
  | 0 => some [0, 1]
  | 1 => some [0, 1, 5]
  | 2 => some [4]
  | _ => none
theorem f_quotalaw19_kept.does {W : World} {H : HProp} {R : Ending → HProp → Prop} (a0 a1 : Value) (h : exec prog W tab 23 f_quotalaw19_kept.live (codeOf Go.Proofs.Tryz.f10) (bodyQ prog W tab [.tmp 4] R) (argFr 0 [a0, a1]) [] H) : Does prog W f_quotalaw19_kept ⟨[a0, a1]⟩ H R :=
  Does.of_exec tab_ok f_quotalaw19_kept.live Go.Proofs.Tryz.func10 rfl rfl rfl (by simp) h
noncomputable abbrev f_quotalaw19_Life_told.def : Func := Go.Proofs.Tryz.f11
theorem f_quotalaw19_Life_told.fn : prog.funcs[f_quotalaw19_Life_told]? = some f_quotalaw19_Life_told.def := Go.Proofs.Tryz.func11
theorem f_quotalaw19_Life_told.ok : Callable prog f_quotalaw19_Life_told := callable_of Go.Proofs.Tryz.func11 (by kernel_rfl) rfl
def f_quotalaw19_Life_told.live : Nat → Option (List Nat) := fun i => match i with
  | 0 => some [2, 3]
  | 1 => some [4]
  | _ => none
theorem f_quotalaw19_Life_told.does {W : World} {H : HProp} {R : Ending → HProp → Prop} (a0 a1 : Value) (h : exec prog W tab 13 f_quotalaw19_Life_told.live (codeOf Go.Proofs.Tryz.f11) (bodyQ prog W tab [.tmp 4] R) (argFr 0 [a0, a1]) [] H) : Does prog W f_quotalaw19_Life_told ⟨[a0, a1]⟩ H R :=
  Does.of_exec tab_ok f_quotalaw19_Life_told.live Go.Proofs.Tryz.func11 rfl rfl rfl (by simp) h
noncomputable abbrev f_quotalaw19_Life_wide.def : Func := Go.Proofs.Tryz.f12
theorem f_quotalaw19_Life_wide.fn : prog.funcs[f_quotalaw19_Life_wide]? = some f_quotalaw19_Life_wide.def := Go.Proofs.Tryz.func12
theorem f_quotalaw19_Life_wide.ok : Callable prog f_quotalaw19_Life_wide := callable_of Go.Proofs.Tryz.func12 (by kernel_rfl) rfl
def f_quotalaw19_Life_wide.live : Nat → Option (List Nat) := fun i => match i with
  | 0 => some [1, 2]
  | 1 => some [2, 3]
  | 2 => some [2, 3]
  | 3 => some [2]
  | _ => none
theorem f_quotalaw19_Life_wide.does {W : World} {H : HProp} {R : Ending → HProp → Prop} (a0 : Value) (h : exec prog W tab 8 f_quotalaw19_Life_wide.live (codeOf Go.Proofs.Tryz.f12) (bodyQ prog W tab [.cell 2 33] R) (argFr 0 [a0]) [] H) : Does prog W f_quotalaw19_Life_wide ⟨[a0]⟩ H R :=
  Does.of_exec tab_ok f_quotalaw19_Life_wide.live Go.Proofs.Tryz.func12 rfl rfl rfl (by simp) h
noncomputable abbrev f_undo_Run.def : Func := Go.Proofs.Tryz.f13
theorem f_undo_Run.fn : prog.funcs[f_undo_Run]? = some f_undo_Run.def := Go.Proofs.Tryz.func13
theorem f_undo_Run.ok : Callable prog f_undo_Run := callable_of Go.Proofs.Tryz.func13 (by kernel_rfl) rfl
def f_undo_Run.live : Nat → Option (List Nat) := fun i => match i with
  | 0 => some [0, 2, 3, 5, 8, 9]
  | 1 => some [0, 2, 3, 5, 8, 9]
  | 2 => some [0, 2, 3, 5, 8, 9, 27]
  | 3 => some [0, 2, 3, 5, 8, 9]
  | 4 => some [0, 2, 3, 5, 8, 9, 10, 11]
  | 5 => some [0, 2, 3, 5, 8, 9, 10]
  | 6 => some [0, 2, 3, 5, 8, 9, 10, 38]
  | 7 => some [0, 2, 3, 5, 8, 9, 10]
  | 8 => some [0, 2, 3, 5, 8, 9, 10, 11, 12]
  | 9 => some [0, 2, 3, 5, 8, 9, 10, 12]
  | 10 => some [5, 8, 9, 10, 12, 13]
  | 11 => some [5, 8, 9, 12, 13, 55]
  | 12 => some [5, 8, 9, 12, 13]
  | 13 => some [5, 8, 9, 12, 13, 14]
  | 14 => some [5, 8, 9, 12, 13, 14, 59, 60, 61]
  | 15 => some [5, 8, 9, 12, 13, 14, 59, 60, 61, 62]
  | 16 => some [5, 8, 9, 12, 13, 14, 16, 59, 60, 61]
  | 17 => some [5, 8, 9, 12, 13, 14, 16, 59, 60, 61]
  | 18 => some [5, 8, 9, 12, 13, 14, 59, 60, 61]
  | 19 => some [5, 8, 9, 12, 13, 14, 59, 60, 61]
  | 20 => some [8, 9, 12]
  | 21 => some [8, 9]
  | _ => none
theorem f_undo_Run.does {W : World} {H : HProp} {R : Ending → HProp → Prop} (a0 a1 a2 a3 : Value) (h : exec prog W tab 78 f_undo_Run.live (codeOf Go.Proofs.Tryz.f13) (bodyQ prog W tab [.cell 8 3, .cell 9 56] R) (argFr 0 [a0, a1, a2, a3]) [] H) : Does prog W f_undo_Run ⟨[a0, a1, a2, a3]⟩ H R :=
  Does.of_exec tab_ok f_undo_Run.live Go.Proofs.Tryz.func13 rfl rfl rfl (by simp) h
noncomputable abbrev f_quotalaw19_is.def : Func := Go.Proofs.Tryz.f14
theorem f_quotalaw19_is.fn : prog.funcs[f_quotalaw19_is]? = some f_quotalaw19_is.def := Go.Proofs.Tryz.func14
theorem f_quotalaw19_is.ok : Callable prog f_quotalaw19_is := callable_of Go.Proofs.Tryz.func14 (by kernel_rfl) rfl
def f_quotalaw19_is.live : Nat → Option (List Nat) := fun i => match i with
  | 0 => some [0, 1]
  | 1 => some [0, 1, 8]
  | 2 => some [4]
  | 3 => some [1, 11]
  | 4 => some [1, 13, 14]
  | 5 => some [1, 5]
  | 6 => some [1, 5, 30]
  | 7 => some [4]
  | 8 => some [1, 34]
  | 9 => some [1, 36, 37]
  | 10 => some [1, 6]
  | 11 => some [4]
  | 12 => some [4]
  | _ => none
theorem f_quotalaw19_is.does {W : World} {H : HProp} {R : Ending → HProp → Prop} (a0 a1 : Value) (h : exec prog W tab 41 f_quotalaw19_is.live (codeOf Go.Proofs.Tryz.f14) (bodyQ prog W tab [.tmp 4] R) (argFr 0 [a0, a1]) [] H) : Does prog W f_quotalaw19_is ⟨[a0, a1]⟩ H R :=
  Does.of_exec tab_ok f_quotalaw19_is.live Go.Proofs.Tryz.func14 rfl rfl rfl (by simp) h
noncomputable abbrev f_interval_Add.def : Func := Go.Proofs.Tryz.f15
theorem f_interval_Add.fn : prog.funcs[f_interval_Add]? = some f_interval_Add.def := Go.Proofs.Tryz.func15
theorem f_interval_Add.ok : Callable prog f_interval_Add := callable_of Go.Proofs.Tryz.func15 (by kernel_rfl) rfl
def f_interval_Add.live : Nat → Option (List Nat) := fun i => match i with
  | 0 => some [0, 1]
  | 1 => some [4, 5]
  | _ => none
theorem f_interval_Add.does {W : World} {H : HProp} {R : Ending → HProp → Prop} (a0 a1 : Value) (h : exec prog W tab 13 f_interval_Add.live (codeOf Go.Proofs.Tryz.f15) (bodyQ prog W tab [.tmp 4, .tmp 5] R) (argFr 0 [a0, a1]) [] H) : Does prog W f_interval_Add ⟨[a0, a1]⟩ H R :=
  Does.of_exec tab_ok f_interval_Add.live Go.Proofs.Tryz.func15 rfl rfl rfl (by simp) h
noncomputable abbrev f_slices_Sorted_int.def : Func := Go.Proofs.Tryz.f16
theorem f_slices_Sorted_int.fn : prog.funcs[f_slices_Sorted_int]? = some f_slices_Sorted_int.def := Go.Proofs.Tryz.func16
theorem f_slices_Sorted_int.ok : Callable prog f_slices_Sorted_int := callable_of Go.Proofs.Tryz.func16 (by kernel_rfl) rfl
def f_slices_Sorted_int.live : Nat → Option (List Nat) := fun i => match i with
  | 0 => some [0]
  | 1 => some [3]
  | 2 => some [3]
  | 3 => some [2]
  | _ => none
theorem f_slices_Sorted_int.does {W : World} {H : HProp} {R : Ending → HProp → Prop} (a0 : Value) (h : exec prog W tab 9 f_slices_Sorted_int.live (codeOf Go.Proofs.Tryz.f16) (bodyQ prog W tab [.tmp 2] R) (argFr 0 [a0]) [] H) : Does prog W f_slices_Sorted_int ⟨[a0]⟩ H R :=
  Does.of_exec tab_ok f_slices_Sorted_int.live Go.Proofs.Tryz.func16 rfl rfl rfl (by simp) h
noncomputable abbrev f_maps_Keys_M_int_api_Record_int_api_Record.def : Func := Go.Proofs.Tryz.f17
theorem f_maps_Keys_M_int_api_Record_int_api_Record.fn : prog.funcs[f_maps_Keys_M_int_api_Record_int_api_Record]? = some f_maps_Keys_M_int_api_Record_int_api_Record.def := Go.Proofs.Tryz.func17
theorem f_maps_Keys_M_int_api_Record_int_api_Record.ok : Callable prog f_maps_Keys_M_int_api_Record_int_api_Record := callable_of Go.Proofs.Tryz.func17 (by kernel_rfl) rfl
def f_maps_Keys_M_int_api_Record_int_api_Record.live : Nat → Option (List Nat) := fun i => match i with
  | 0 => some [1]
  | 1 => some [2]
  | _ => none
theorem f_maps_Keys_M_int_api_Record_int_api_Record.does {W : World} {H : HProp} {R : Ending → HProp → Prop} (a0 : Value) (h : exec prog W tab 4 f_maps_Keys_M_int_api_Record_int_api_Record.live (codeOf Go.Proofs.Tryz.f17) (bodyQ prog W tab [.tmp 2] R) (argFr 0 [a0]) [] H) : Does prog W f_maps_Keys_M_int_api_Record_int_api_Record ⟨[a0]⟩ H R :=
  Does.of_exec tab_ok f_maps_Keys_M_int_api_Record_int_api_Record.live Go.Proofs.Tryz.func17 rfl rfl rfl (by simp) h
noncomputable abbrev f_quotaref19_at.def : Func := Go.Proofs.Tryz.f18
theorem f_quotaref19_at.fn : prog.funcs[f_quotaref19_at]? = some f_quotaref19_at.def := Go.Proofs.Tryz.func18
theorem f_quotaref19_at.ok : Callable prog f_quotaref19_at := callable_of Go.Proofs.Tryz.func18 (by kernel_rfl) rfl
def f_quotaref19_at.live : Nat → Option (List Nat) := fun i => match i with
  | 0 => some [0, 1]
  | 1 => some [0, 1, 5]
  | 2 => some [0, 1, 5, 9]
  | 3 => some [0, 1, 5]
  | 4 => some [0, 1, 5, 19]
  | 5 => some [4]
  | 6 => some [4]
  | _ => none
theorem f_quotaref19_at.does {W : World} {H : HProp} {R : Ending → HProp → Prop} (a0 a1 : Value) (h : exec prog W tab 21 f_quotaref19_at.live (codeOf Go.Proofs.Tryz.f18) (bodyQ prog W tab [.tmp 4] R) (argFr 0 [a0, a1]) [] H) : Does prog W f_quotaref19_at ⟨[a0, a1]⟩ H R :=
  Does.of_exec tab_ok f_quotaref19_at.live Go.Proofs.Tryz.func18 rfl rfl rfl (by simp) h
noncomputable abbrev f_quotaref10_Of.def : Func := Go.Proofs.Tryz.f19
theorem f_quotaref10_Of.fn : prog.funcs[f_quotaref10_Of]? = some f_quotaref10_Of.def := Go.Proofs.Tryz.func19
theorem f_quotaref10_Of.ok : Callable prog f_quotaref10_Of := callable_of Go.Proofs.Tryz.func19 (by kernel_rfl) rfl
def f_quotaref10_Of.live : Nat → Option (List Nat) := fun i => match i with
  | 0 => some [0, 2]
  | 1 => some [2]
  | _ => none
theorem f_quotaref10_Of.does {W : World} {H : HProp} {R : Ending → HProp → Prop} (a0 : Value) (h : exec prog W tab 8 f_quotaref10_Of.live (codeOf Go.Proofs.Tryz.f19) (bodyQ prog W tab [.cell 2 70] R) (argFr 0 [a0]) [] H) : Does prog W f_quotaref10_Of ⟨[a0]⟩ H R :=
  Does.of_exec tab_ok f_quotaref10_Of.live Go.Proofs.Tryz.func19 rfl rfl rfl (by simp) h
noncomputable abbrev f_quotaref10_Wide_Plus.def : Func := Go.Proofs.Tryz.f20
theorem f_quotaref10_Wide_Plus.fn : prog.funcs[f_quotaref10_Wide_Plus]? = some f_quotaref10_Wide_Plus.def := Go.Proofs.Tryz.func20
theorem f_quotaref10_Wide_Plus.ok : Callable prog f_quotaref10_Wide_Plus := callable_of Go.Proofs.Tryz.func20 (by kernel_rfl) rfl
def f_quotaref10_Wide_Plus.live : Nat → Option (List Nat) := fun i => match i with
  | 0 => some [1, 2, 4]
  | 1 => some [1, 2, 4, 5]
  | 2 => some [4]
  | _ => none
theorem f_quotaref10_Wide_Plus.does {W : World} {H : HProp} {R : Ending → HProp → Prop} (a0 a1 : Value) (h : exec prog W tab 22 f_quotaref10_Wide_Plus.live (codeOf Go.Proofs.Tryz.f20) (bodyQ prog W tab [.cell 4 70] R) (argFr 0 [a0, a1]) [] H) : Does prog W f_quotaref10_Wide_Plus ⟨[a0, a1]⟩ H R :=
  Does.of_exec tab_ok f_quotaref10_Wide_Plus.live Go.Proofs.Tryz.func20 rfl rfl rfl (by simp) h
noncomputable abbrev f_quotaref10_Wide_Fits.def : Func := Go.Proofs.Tryz.f21
theorem f_quotaref10_Wide_Fits.fn : prog.funcs[f_quotaref10_Wide_Fits]? = some f_quotaref10_Wide_Fits.def := Go.Proofs.Tryz.func21
theorem f_quotaref10_Wide_Fits.ok : Callable prog f_quotaref10_Wide_Fits := callable_of Go.Proofs.Tryz.func21 (by kernel_rfl) rfl
def f_quotaref10_Wide_Fits.live : Nat → Option (List Nat) := fun i => match i with
  | 0 => some [1]
  | 1 => some [2]
  | _ => none
theorem f_quotaref10_Wide_Fits.does {W : World} {H : HProp} {R : Ending → HProp → Prop} (a0 : Value) (h : exec prog W tab 11 f_quotaref10_Wide_Fits.live (codeOf Go.Proofs.Tryz.f21) (bodyQ prog W tab [.tmp 2] R) (argFr 0 [a0]) [] H) : Does prog W f_quotaref10_Wide_Fits ⟨[a0]⟩ H R :=
  Does.of_exec tab_ok f_quotaref10_Wide_Fits.live Go.Proofs.Tryz.func21 rfl rfl rfl (by simp) h
noncomputable abbrev f_quotaref19_rising.def : Func := Go.Proofs.Tryz.f22
theorem f_quotaref19_rising.fn : prog.funcs[f_quotaref19_rising]? = some f_quotaref19_rising.def := Go.Proofs.Tryz.func22
theorem f_quotaref19_rising.ok : Callable prog f_quotaref19_rising := callable_of Go.Proofs.Tryz.func22 (by kernel_rfl) rfl
def f_quotaref19_rising.live : Nat → Option (List Nat) := fun i => match i with
  | 0 => some [0]
  | 1 => some [0, 3]
  | 2 => some [0, 3, 9]
  | 3 => some [0, 3, 4]
  | 4 => some [0, 3, 4, 5]
  | 5 => some [0, 3, 4, 5, 13]
  | 6 => some [0, 3, 4, 5]
  | 7 => some [0, 3, 4, 5, 28]
  | 8 => some [0, 3, 4, 5]
  | 9 => some [0, 3, 4]
  | 10 => some [0, 3, 4, 6]
  | 11 => some [0, 3, 4, 6]
  | 12 => some [0, 3]
  | 13 => some [2]
  | _ => none
theorem f_quotaref19_rising.does {W : World} {H : HProp} {R : Ending → HProp → Prop} (a0 : Value) (h : exec prog W tab 49 f_quotaref19_rising.live (codeOf Go.Proofs.Tryz.f22) (bodyQ prog W tab [.tmp 2] R) (argFr 0 [a0]) [] H) : Does prog W f_quotaref19_rising ⟨[a0]⟩ H R :=
  Does.of_exec tab_ok f_quotaref19_rising.live Go.Proofs.Tryz.func22 rfl rfl rfl (by simp) h
def f_quotaref19_rising.plan7 : List Nat := [0, 1, 2, 3, 4, 5, 6, 7, 8, 9, 10, 11, 12]
def f_quotaref19_rising.last7 : List Nat := [12]
noncomputable abbrev f_quotalaw19_plain.def : Func := Go.Proofs.Tryz.f23
theorem f_quotalaw19_plain.fn : prog.funcs[f_quotalaw19_plain]? = some f_quotalaw19_plain.def := Go.Proofs.Tryz.func23
theorem f_quotalaw19_plain.ok : Callable prog f_quotalaw19_plain := callable_of Go.Proofs.Tryz.func23 (by kernel_rfl) rfl
def f_quotalaw19_plain.live : Nat → Option (List Nat) := fun i => match i with
  | 0 => some [2, 3]
  | 1 => some [4]
  | _ => none
theorem f_quotalaw19_plain.does {W : World} {H : HProp} {R : Ending → HProp → Prop} (a0 a1 : Value) (h : exec prog W tab 90 f_quotalaw19_plain.live (codeOf Go.Proofs.Tryz.f23) (bodyQ prog W tab [.tmp 4] R) (argFr 0 [a0, a1]) [] H) : Does prog W f_quotalaw19_plain ⟨[a0, a1]⟩ H R :=
  Does.of_exec tab_ok f_quotalaw19_plain.live Go.Proofs.Tryz.func23 rfl rfl rfl (by simp) h
noncomputable abbrev f_quotaref18_Told.def : Func := Go.Proofs.Tryz.f24
theorem f_quotaref18_Told.fn : prog.funcs[f_quotaref18_Told]? = some f_quotaref18_Told.def := Go.Proofs.Tryz.func24
theorem f_quotaref18_Told.ok : Callable prog f_quotaref18_Told := callable_of Go.Proofs.Tryz.func24 (by kernel_rfl) rfl
def f_quotaref18_Told.live : Nat → Option (List Nat) := fun i => match i with
  | 0 => some [0, 1, 2]
  | 1 => some [0, 2, 7]
  | 2 => some [0, 2, 7, 8]
  | 3 => some [0, 2, 7, 8, 23]
  | 4 => some [0, 2, 7, 8]
  | 5 => some [0, 2, 7, 8]
  | 6 => some [0, 2, 7, 8, 38]
  | 7 => some [7]
  | 8 => some [6]
  | 9 => some [6]
  | _ => none
theorem f_quotaref18_Told.does {W : World} {H : HProp} {R : Ending → HProp → Prop} (a0 a1 a2 : Value) (h : exec prog W tab 50 f_quotaref18_Told.live (codeOf Go.Proofs.Tryz.f24) (bodyQ prog W tab [.tmp 6] R) (argFr 0 [a0, a1, a2]) [] H) : Does prog W f_quotaref18_Told ⟨[a0, a1, a2]⟩ H R :=
  Does.of_exec tab_ok f_quotaref18_Told.live Go.Proofs.Tryz.func24 rfl rfl rfl (by simp) h
noncomputable abbrev f_quotalaw19_Life_shape.def : Func := Go.Proofs.Tryz.f25
theorem f_quotalaw19_Life_shape.fn : prog.funcs[f_quotalaw19_Life_shape]? = some f_quotalaw19_Life_shape.def := Go.Proofs.Tryz.func25
theorem f_quotalaw19_Life_shape.ok : Callable prog f_quotalaw19_Life_shape := callable_of Go.Proofs.Tryz.func25 (by kernel_rfl) rfl
def f_quotalaw19_Life_shape.live : Nat → Option (List Nat) := fun i => match i with
  | 0 => some [1, 2]
  | 1 => some [2]
  | _ => none
theorem f_quotalaw19_Life_shape.does {W : World} {H : HProp} {R : Ending → HProp → Prop} (a0 : Value) (h : exec prog W tab 19 f_quotalaw19_Life_shape.live (codeOf Go.Proofs.Tryz.f25) (bodyQ prog W tab [.cell 2 33] R) (argFr 0 [a0]) [] H) : Does prog W f_quotalaw19_Life_shape ⟨[a0]⟩ H R :=
  Does.of_exec tab_ok f_quotalaw19_Life_shape.live Go.Proofs.Tryz.func25 rfl rfl rfl (by simp) h
def f_quotalaw19_Life_shape.plan1 : List Nat := [0, 1, 2, 5, 6, 7, 10, 11, 12, 3, 4, 8, 9, 13, 14, 15, 16]
def f_quotalaw19_Life_shape.last1 : List Nat := [15, 16]
noncomputable abbrev f_undo_Run_1.def : Func := Go.Proofs.Tryz.f26
theorem f_undo_Run_1.fn : prog.funcs[f_undo_Run_1]? = some f_undo_Run_1.def := Go.Proofs.Tryz.func26
theorem f_undo_Run_1.ok : Callable prog f_undo_Run_1 := callable_of Go.Proofs.Tryz.func26 (by kernel_rfl) rfl
def f_undo_Run_1.live : Nat → Option (List Nat) := fun i => match i with
  | 0 => some [0, 1, 5]
  | 1 => some [4]
  | 2 => some []
  | 3 => some [0, 1, 5, 7]
  | 4 => some []
  | 5 => some [0, 1, 5, 9, 10]
  | 6 => some [0, 1, 3]
  | 7 => some []
  | _ => none
theorem f_undo_Run_1.does {W : World} {H : HProp} {R : Ending → HProp → Prop} (a0 a1 : Value) (h : exec prog W tab 17 f_undo_Run_1.live (codeOf Go.Proofs.Tryz.f26) (bodyQ prog W tab [] R) (argFr 0 [a0, a1]) [] H) : Does prog W f_undo_Run_1 ⟨[a0, a1]⟩ H R :=
  Does.of_exec tab_ok f_undo_Run_1.live Go.Proofs.Tryz.func26 rfl rfl rfl (by simp) h
def f_undo_Run_1.tree7 : PT := (.op 0 (.op 1 (.op 2 (.op 3 (.two 4 (.op 5 (.op 6 (.op 7 .nil))) 6 (.op 4 (.op 5 (.op 7 .nil))))))))
noncomputable abbrev f_undo_must.def : Func := Go.Proofs.Tryz.f27
theorem f_undo_must.fn : prog.funcs[f_undo_must]? = some f_undo_must.def := Go.Proofs.Tryz.func27
theorem f_undo_must.ok : Callable prog f_undo_must := callable_of Go.Proofs.Tryz.func27 (by kernel_rfl) rfl
def f_undo_must.live : Nat → Option (List Nat) := fun i => match i with
  | 0 => some [0, 3]
  | 1 => some []
  | _ => none
theorem f_undo_must.does {W : World} {H : HProp} {R : Ending → HProp → Prop} (a0 : Value) (h : exec prog W tab 7 f_undo_must.live (codeOf Go.Proofs.Tryz.f27) (bodyQ prog W tab [] R) (argFr 0 [a0]) [] H) : Does prog W f_undo_must ⟨[a0]⟩ H R :=
  Does.of_exec tab_ok f_undo_must.live Go.Proofs.Tryz.func27 rfl rfl rfl (by simp) h
noncomputable abbrev f_txns_Table_Get.def : Func := Go.Proofs.Tryz.f28
theorem f_txns_Table_Get.fn : prog.funcs[f_txns_Table_Get]? = some f_txns_Table_Get.def := Go.Proofs.Tryz.func28
theorem f_txns_Table_Get.ok : Callable prog f_txns_Table_Get := callable_of Go.Proofs.Tryz.func28 (by kernel_rfl) rfl
def f_txns_Table_Get.live : Nat → Option (List Nat) := fun i => match i with
  | 0 => some [0, 1, 4]
  | 1 => some [4, 6, 7]
  | 2 => some [4, 6, 18]
  | 3 => some [4, 5]
  | 4 => some [4, 5]
  | _ => none
theorem f_txns_Table_Get.does {W : World} {H : HProp} {R : Ending → HProp → Prop} (a0 a1 : Value) (h : exec prog W tab 21 f_txns_Table_Get.live (codeOf Go.Proofs.Tryz.f28) (bodyQ prog W tab [.cell 4 91, .tmp 5] R) (argFr 0 [a0, a1]) [] H) : Does prog W f_txns_Table_Get ⟨[a0, a1]⟩ H R :=
  Does.of_exec tab_ok f_txns_Table_Get.live Go.Proofs.Tryz.func28 rfl rfl rfl (by simp) h
noncomputable abbrev f_undo_records.def : Func := Go.Proofs.Tryz.f29
theorem f_undo_records.fn : prog.funcs[f_undo_records]? = some f_undo_records.def := Go.Proofs.Tryz.func29
theorem f_undo_records.ok : Callable prog f_undo_records := callable_of Go.Proofs.Tryz.func29 (by kernel_rfl) rfl
def f_undo_records.live : Nat → Option (List Nat) := fun i => match i with
  | 0 => some [0]
  | 1 => some [0, 3]
  | 2 => some [0, 3, 4]
  | 3 => some [0, 3, 4, 10]
  | 4 => some [0, 3, 4]
  | 5 => some [0, 3, 4, 5, 6]
  | 6 => some [0, 3, 4, 5]
  | 7 => some [0, 3, 4]
  | 8 => some [2]
  | _ => none
theorem f_undo_records.does {W : World} {H : HProp} {R : Ending → HProp → Prop} (a0 : Value) (h : exec prog W tab 26 f_undo_records.live (codeOf Go.Proofs.Tryz.f29) (bodyQ prog W tab [.tmp 2] R) (argFr 0 [a0]) [] H) : Does prog W f_undo_records ⟨[a0]⟩ H R :=
  Does.of_exec tab_ok f_undo_records.live Go.Proofs.Tryz.func29 rfl rfl rfl (by simp) h
noncomputable abbrev f_undo_run_append.def : Func := Go.Proofs.Tryz.f30
theorem f_undo_run_append.fn : prog.funcs[f_undo_run_append]? = some f_undo_run_append.def := Go.Proofs.Tryz.func30
theorem f_undo_run_append.ok : Callable prog f_undo_run_append := callable_of Go.Proofs.Tryz.func30 (by kernel_rfl) rfl
def f_undo_run_append.live : Nat → Option (List Nat) := fun i => match i with
  | 0 => some [2, 3, 4]
  | 1 => some [2, 3, 4, 5, 6]
  | 2 => some [2, 3, 4, 5]
  | 3 => some [2, 3, 4]
  | 4 => some [2, 3, 4, 6]
  | 5 => some [2, 3, 4]
  | 6 => some [3, 4]
  | 7 => some [4]
  | _ => none
theorem f_undo_run_append.does {W : World} {H : HProp} {R : Ending → HProp → Prop} (a0 a1 : Value) (h : exec prog W tab 39 f_undo_run_append.live (codeOf Go.Proofs.Tryz.f30) (bodyQ prog W tab [.cell 4 53] R) (argFr 0 [a0, a1]) [] H) : Does prog W f_undo_run_append ⟨[a0, a1]⟩ H R :=
  Does.of_exec tab_ok f_undo_run_append.live Go.Proofs.Tryz.func30 rfl rfl rfl (by simp) h
def f_undo_run_append.plan3 : List Nat := [0, 1, 2, 3, 4, 5, 6, 7]
def f_undo_run_append.last3 : List Nat := [6, 7]
noncomputable abbrev f_undo_Run_2.def : Func := Go.Proofs.Tryz.f31
theorem f_undo_Run_2.fn : prog.funcs[f_undo_Run_2]? = some f_undo_Run_2.def := Go.Proofs.Tryz.func31
theorem f_undo_Run_2.ok : Callable prog f_undo_Run_2 := callable_of Go.Proofs.Tryz.func31 (by kernel_rfl) rfl
def f_undo_Run_2.live : Nat → Option (List Nat) := fun i => match i with
  | 0 => some [1, 2]
  | 1 => some [1, 7, 8, 9]
  | 2 => some [1, 7, 8, 9, 10]
  | 3 => some [1, 5, 7, 8, 9]
  | 4 => some [1, 7, 8, 9]
  | 5 => some [1, 7, 8, 9]
  | _ => none
theorem f_undo_Run_2.does {W : World} {H : HProp} {R : Ending → HProp → Prop} (a0 a1 : Value) (h : exec prog W tab 17 f_undo_Run_2.live (codeOf Go.Proofs.Tryz.f31) (bodyQ prog W tab [] R) (argFr 0 [a0, a1]) [] H) : Does prog W f_undo_Run_2 ⟨[a0, a1]⟩ H R :=
  Does.of_exec tab_ok f_undo_Run_2.live Go.Proofs.Tryz.func31 rfl rfl rfl (by simp) h
noncomputable abbrev f_apply_Pages.def : Func := Go.Proofs.Tryz.f32
theorem f_apply_Pages.fn : prog.funcs[f_apply_Pages]? = some f_apply_Pages.def := Go.Proofs.Tryz.func32
theorem f_apply_Pages.ok : Callable prog f_apply_Pages := callable_of Go.Proofs.Tryz.func32 (by kernel_rfl) rfl
def f_apply_Pages.live : Nat → Option (List Nat) := fun i => match i with
  | 0 => some [1]
  | 1 => some [1, 8]
  | 2 => some [2]
  | 3 => some [3, 4]
  | 4 => some [3, 4, 17]
  | 5 => some [2]
  | 6 => some [2]
  | _ => none
theorem f_apply_Pages.does {W : World} {H : HProp} {R : Ending → HProp → Prop} (a0 : Value) (h : exec prog W tab 27 f_apply_Pages.live (codeOf Go.Proofs.Tryz.f32) (bodyQ prog W tab [.tmp 2] R) (argFr 0 [a0]) [] H) : Does prog W f_apply_Pages ⟨[a0]⟩ H R :=
  Does.of_exec tab_ok f_apply_Pages.live Go.Proofs.Tryz.func32 rfl rfl rfl (by simp) h
def f_apply_Pages.plan3 : List Nat := [0, 1, 2, 3, 4, 5, 6, 7]
def f_apply_Pages.last3 : List Nat := [7]
noncomputable abbrev f_undo_Run_3.def : Func := Go.Proofs.Tryz.f33
theorem f_undo_Run_3.fn : prog.funcs[f_undo_Run_3]? = some f_undo_Run_3.def := Go.Proofs.Tryz.func33
theorem f_undo_Run_3.ok : Callable prog f_undo_Run_3 := callable_of Go.Proofs.Tryz.func33 (by kernel_rfl) rfl
def f_undo_Run_3.live : Nat → Option (List Nat) := fun i => match i with
  | 0 => some [1, 2, 4, 5]
  | 1 => some [1, 2, 4]
  | 2 => some [1, 6, 7, 8]
  | 3 => some [1, 6, 7]
  | 4 => some [1, 6, 27]
  | 5 => some []
  | _ => none
theorem f_undo_Run_3.does {W : World} {H : HProp} {R : Ending → HProp → Prop} (a0 a1 a2 : Value) (h : exec prog W tab 33 f_undo_Run_3.live (codeOf Go.Proofs.Tryz.f33) (bodyQ prog W tab [] R) (argFr 0 [a0, a1, a2]) [] H) : Does prog W f_undo_Run_3 ⟨[a0, a1, a2]⟩ H R :=
  Does.of_exec tab_ok f_undo_Run_3.live Go.Proofs.Tryz.func33 rfl rfl rfl (by simp) h
noncomputable abbrev f_pool_Pool_Get.def : Func := Go.Proofs.Tryz.f34
theorem f_pool_Pool_Get.fn : prog.funcs[f_pool_Pool_Get]? = some f_pool_Pool_Get.def := Go.Proofs.Tryz.func34
theorem f_pool_Pool_Get.ok : Callable prog f_pool_Pool_Get := callable_of Go.Proofs.Tryz.func34 (by kernel_rfl) rfl
def f_pool_Pool_Get.live : Nat → Option (List Nat) := fun i => match i with
  | 0 => some [0, 1, 4]
  | 1 => some [1, 4, 6, 7]
  | 2 => some [1, 4, 6, 7, 15]
  | 3 => some [4, 5]
  | 4 => some [4, 5]
  | _ => none
theorem f_pool_Pool_Get.does {W : World} {H : HProp} {R : Ending → HProp → Prop} (a0 a1 : Value) (h : exec prog W tab 25 f_pool_Pool_Get.live (codeOf Go.Proofs.Tryz.f34) (bodyQ prog W tab [.cell 4 104, .tmp 5] R) (argFr 0 [a0, a1]) [] H) : Does prog W f_pool_Pool_Get ⟨[a0, a1]⟩ H R :=
  Does.of_exec tab_ok f_pool_Pool_Get.live Go.Proofs.Tryz.func34 rfl rfl rfl (by simp) h
noncomputable abbrev f_api_Code.def : Func := Go.Proofs.Tryz.f35
theorem f_api_Code.fn : prog.funcs[f_api_Code]? = some f_api_Code.def := Go.Proofs.Tryz.func35
theorem f_api_Code.ok : Callable prog f_api_Code := callable_of Go.Proofs.Tryz.func35 (by kernel_rfl) rfl
def f_api_Code.live : Nat → Option (List Nat) := fun i => match i with
  | 0 => some [0]
  | 1 => some [0, 5]
  | 2 => some [2]
  | 3 => some [0, 3]
  | 4 => some [3, 8]
  | 5 => some [2]
  | 6 => some [2]
  | _ => none
theorem f_api_Code.does {W : World} {H : HProp} {R : Ending → HProp → Prop} (a0 : Value) (h : exec prog W tab 10 f_api_Code.live (codeOf Go.Proofs.Tryz.f35) (bodyQ prog W tab [.tmp 2] R) (argFr 0 [a0]) [] H) : Does prog W f_api_Code ⟨[a0]⟩ H R :=
  Does.of_exec tab_ok f_api_Code.live Go.Proofs.Tryz.func35 rfl rfl rfl (by simp) h
noncomputable abbrev f_apply_Do.def : Func := Go.Proofs.Tryz.f36
theorem f_apply_Do.fn : prog.funcs[f_apply_Do]? = some f_apply_Do.def := Go.Proofs.Tryz.func36
theorem f_apply_Do.ok : Callable prog f_apply_Do := callable_of Go.Proofs.Tryz.func36 (by kernel_rfl) rfl
def f_apply_Do.live : Nat → Option (List Nat) := fun i => match i with
  | 0 => some [2, 3, 4]
  | 1 => some [2, 3, 4, 11]
  | 2 => some [4, 5, 6]
  | 3 => some [2, 3, 4, 17]
  | 4 => some [4, 5, 6]
  | 5 => some [2, 3, 4, 36]
  | 6 => some [4, 5, 6]
  | 7 => some [2, 3, 4, 52]
  | 8 => some [4, 5, 6]
  | 9 => some [2, 3, 4, 7]
  | 10 => some [2, 3, 4, 7, 62]
  | 11 => some [2, 3, 4, 7]
  | 12 => some [2, 3, 4, 8]
  | 13 => some [2, 3, 4, 8, 9]
  | 14 => some [2, 3, 4, 8, 9]
  | 15 => some [3, 4, 8, 9, 71]
  | 16 => some [3, 4, 9, 10]
  | 17 => some [3, 4, 9, 10]
  | 18 => some [3, 4, 9, 10, 79]
  | 19 => some [4, 5, 6]
  | 20 => some [4, 9]
  | 21 => some [4, 5, 6]
  | _ => none
theorem f_apply_Do.does {W : World} {H : HProp} {R : Ending → HProp → Prop} (a0 a1 : Value) (h : exec prog W tab 86 f_apply_Do.live (codeOf Go.Proofs.Tryz.f36) (bodyQ prog W tab [.cell 4 104, .tmp 5, .tmp 6] R) (argFr 0 [a0, a1]) [] H) : Does prog W f_apply_Do ⟨[a0, a1]⟩ H R :=
  Does.of_exec tab_ok f_apply_Do.live Go.Proofs.Tryz.func36 rfl rfl rfl (by simp) h
noncomputable abbrev f_pool_Pool_Put.def : Func := Go.Proofs.Tryz.f37
theorem f_pool_Pool_Put.fn : prog.funcs[f_pool_Pool_Put]? = some f_pool_Pool_Put.def := Go.Proofs.Tryz.func37
theorem f_pool_Pool_Put.ok : Callable prog f_pool_Pool_Put := callable_of Go.Proofs.Tryz.func37 (by kernel_rfl) rfl
def f_pool_Pool_Put.live : Nat → Option (List Nat) := fun i => match i with
  | 0 => some [0, 3]
  | 1 => some [4]
  | _ => none
theorem f_pool_Pool_Put.does {W : World} {H : HProp} {R : Ending → HProp → Prop} (a0 a1 : Value) (h : exec prog W tab 11 f_pool_Pool_Put.live (codeOf Go.Proofs.Tryz.f37) (bodyQ prog W tab [.tmp 4] R) (argFr 0 [a0, a1]) [] H) : Does prog W f_pool_Pool_Put ⟨[a0, a1]⟩ H R :=
  Does.of_exec tab_ok f_pool_Pool_Put.live Go.Proofs.Tryz.func37 rfl rfl rfl (by simp) h
def f_pool_Pool_Put.plan1 : List Nat := [0, 1, 2, 3, 4, 5, 6]
def f_pool_Pool_Put.last1 : List Nat := [5, 6]
noncomputable abbrev f_interval_of.def : Func := Go.Proofs.Tryz.f38
theorem f_interval_of.fn : prog.funcs[f_interval_of]? = some f_interval_of.def := Go.Proofs.Tryz.func38
theorem f_interval_of.ok : Callable prog f_interval_of := callable_of Go.Proofs.Tryz.func38 (by kernel_rfl) rfl
def f_interval_of.live : Nat → Option (List Nat) := fun i => match i with
  | 0 => some [0, 2]
  | 1 => some [2]
  | _ => none
theorem f_interval_of.does {W : World} {H : HProp} {R : Ending → HProp → Prop} (a0 : Value) (h : exec prog W tab 8 f_interval_of.live (codeOf Go.Proofs.Tryz.f38) (bodyQ prog W tab [.cell 2 113] R) (argFr 0 [a0]) [] H) : Does prog W f_interval_of ⟨[a0]⟩ H R :=
  Does.of_exec tab_ok f_interval_of.live Go.Proofs.Tryz.func38 rfl rfl rfl (by simp) h
noncomputable abbrev f_interval_wide_plus.def : Func := Go.Proofs.Tryz.f39
theorem f_interval_wide_plus.fn : prog.funcs[f_interval_wide_plus]? = some f_interval_wide_plus.def := Go.Proofs.Tryz.func39
theorem f_interval_wide_plus.ok : Callable prog f_interval_wide_plus := callable_of Go.Proofs.Tryz.func39 (by kernel_rfl) rfl
def f_interval_wide_plus.live : Nat → Option (List Nat) := fun i => match i with
  | 0 => some [1, 2, 4]
  | 1 => some [1, 2, 4, 5, 6]
  | 2 => some [4]
  | _ => none
theorem f_interval_wide_plus.does {W : World} {H : HProp} {R : Ending → HProp → Prop} (a0 a1 : Value) (h : exec prog W tab 25 f_interval_wide_plus.live (codeOf Go.Proofs.Tryz.f39) (bodyQ prog W tab [.cell 4 113] R) (argFr 0 [a0, a1]) [] H) : Does prog W f_interval_wide_plus ⟨[a0, a1]⟩ H R :=
  Does.of_exec tab_ok f_interval_wide_plus.live Go.Proofs.Tryz.func39 rfl rfl rfl (by simp) h
noncomputable abbrev f_interval_wide_number.def : Func := Go.Proofs.Tryz.f40
theorem f_interval_wide_number.fn : prog.funcs[f_interval_wide_number]? = some f_interval_wide_number.def := Go.Proofs.Tryz.func40
theorem f_interval_wide_number.ok : Callable prog f_interval_wide_number := callable_of Go.Proofs.Tryz.func40 (by kernel_rfl) rfl
def f_interval_wide_number.live : Nat → Option (List Nat) := fun i => match i with
  | 0 => some [1]
  | 1 => some [1, 10]
  | 2 => some [2, 3]
  | 3 => some [2, 3]
  | _ => none
theorem f_interval_wide_number.does {W : World} {H : HProp} {R : Ending → HProp → Prop} (a0 : Value) (h : exec prog W tab 14 f_interval_wide_number.live (codeOf Go.Proofs.Tryz.f40) (bodyQ prog W tab [.tmp 2, .tmp 3] R) (argFr 0 [a0]) [] H) : Does prog W f_interval_wide_number ⟨[a0]⟩ H R :=
  Does.of_exec tab_ok f_interval_wide_number.live Go.Proofs.Tryz.func40 rfl rfl rfl (by simp) h
noncomputable abbrev f_slices_Collect_int.def : Func := Go.Proofs.Tryz.f41
theorem f_slices_Collect_int.fn : prog.funcs[f_slices_Collect_int]? = some f_slices_Collect_int.def := Go.Proofs.Tryz.func41
theorem f_slices_Collect_int.ok : Callable prog f_slices_Collect_int := callable_of Go.Proofs.Tryz.func41 (by kernel_rfl) rfl
def f_slices_Collect_int.live : Nat → Option (List Nat) := fun i => match i with
  | 0 => some [0]
  | 1 => some [2]
  | _ => none
theorem f_slices_Collect_int.does {W : World} {H : HProp} {R : Ending → HProp → Prop} (a0 : Value) (h : exec prog W tab 5 f_slices_Collect_int.live (codeOf Go.Proofs.Tryz.f41) (bodyQ prog W tab [.tmp 2] R) (argFr 0 [a0]) [] H) : Does prog W f_slices_Collect_int ⟨[a0]⟩ H R :=
  Does.of_exec tab_ok f_slices_Collect_int.live Go.Proofs.Tryz.func41 rfl rfl rfl (by simp) h
noncomputable abbrev f_slices_Sort_S_int_int.def : Func := Go.Proofs.Tryz.f42
theorem f_slices_Sort_S_int_int.fn : prog.funcs[f_slices_Sort_S_int_int]? = some f_slices_Sort_S_int_int.def := Go.Proofs.Tryz.func42
theorem f_slices_Sort_S_int_int.ok : Callable prog f_slices_Sort_S_int_int := callable_of Go.Proofs.Tryz.func42 (by kernel_rfl) rfl
def f_slices_Sort_S_int_int.live : Nat → Option (List Nat) := fun i => match i with
  | 0 => some [0, 2]
  | 1 => some []
  | _ => none
theorem f_slices_Sort_S_int_int.does {W : World} {H : HProp} {R : Ending → HProp → Prop} (a0 : Value) (h : exec prog W tab 11 f_slices_Sort_S_int_int.live (codeOf Go.Proofs.Tryz.f42) (bodyQ prog W tab [] R) (argFr 0 [a0]) [] H) : Does prog W f_slices_Sort_S_int_int ⟨[a0]⟩ H R :=
  Does.of_exec tab_ok f_slices_Sort_S_int_int.live Go.Proofs.Tryz.func42 rfl rfl rfl (by simp) h
noncomputable abbrev f_maps_Keys_M_int_api_Record_int_api_Record_1.def : Func := Go.Proofs.Tryz.f43
theorem f_maps_Keys_M_int_api_Record_int_api_Record_1.fn : prog.funcs[f_maps_Keys_M_int_api_Record_int_api_Record_1]? = some f_maps_Keys_M_int_api_Record_int_api_Record_1.def := Go.Proofs.Tryz.func43
theorem f_maps_Keys_M_int_api_Record_int_api_Record_1.ok : Callable prog f_maps_Keys_M_int_api_Record_int_api_Record_1 := callable_of Go.Proofs.Tryz.func43 (by kernel_rfl) rfl
def f_maps_Keys_M_int_api_Record_int_api_Record_1.live : Nat → Option (List Nat) := fun i => match i with
  | 0 => some [0, 5]
  | 1 => some [0, 5, 7]
  | 2 => some [0, 3, 5]
  | 3 => some [0, 5, 13]
  | _ => none
theorem f_maps_Keys_M_int_api_Record_int_api_Record_1.does {W : World} {H : HProp} {R : Ending → HProp → Prop} (a0 a1 : Value) (h : exec prog W tab 14 f_maps_Keys_M_int_api_Record_int_api_Record_1.live (codeOf Go.Proofs.Tryz.f43) (bodyQ prog W tab [] R) (argFr 0 [a0, a1]) [] H) : Does prog W f_maps_Keys_M_int_api_Record_int_api_Record_1 ⟨[a0, a1]⟩ H R :=
  Does.of_exec tab_ok f_maps_Keys_M_int_api_Record_int_api_Record_1.live Go.Proofs.Tryz.func43 rfl rfl rfl (by simp) h
noncomputable abbrev f_quotaref18_Story_does.def : Func := Go.Proofs.Tryz.f44
theorem f_quotaref18_Story_does.fn : prog.funcs[f_quotaref18_Story_does]? = some f_quotaref18_Story_does.def := Go.Proofs.Tryz.func44
theorem f_quotaref18_Story_does.ok : Callable prog f_quotaref18_Story_does := callable_of Go.Proofs.Tryz.func44 (by kernel_rfl) rfl
def f_quotaref18_Story_does.live : Nat → Option (List Nat) := fun i => match i with
  | 0 => some [0, 3]
  | 1 => some [0, 3, 5]
  | 2 => some [0, 3, 5, 17]
  | 3 => some []
  | 4 => some [4]
  | 5 => some [0, 3, 5, 22]
  | 6 => some [0, 28]
  | 7 => some [0, 6]
  | 8 => some [0]
  | 9 => some []
  | 10 => some [4]
  | 11 => some [0, 3, 5, 65]
  | 12 => some [4]
  | 13 => some [0, 3, 5, 7]
  | 14 => some [0, 3, 5, 7, 8]
  | 15 => some [0, 3, 5, 7, 8, 81]
  | 16 => some [0, 7]
  | 17 => some []
  | 18 => some [0, 3, 5, 7, 8, 94]
  | 19 => some [0, 7, 8]
  | 20 => some [0, 8]
  | 21 => some [0, 8, 9]
  | 22 => some [0, 8, 9, 124]
  | 23 => some [0, 8, 9]
  | 24 => some [0, 8, 9]
  | 25 => some [0, 3, 7, 8, 146]
  | 26 => some [0, 7, 8]
  | 27 => some [0, 7, 8, 10]
  | 28 => some [0, 7, 8, 10, 169]
  | 29 => some [0, 7, 8, 10]
  | 30 => some [0, 7, 8, 10, 176]
  | 31 => some [0, 7, 8, 10]
  | 32 => some [0, 7]
  | 33 => some []
  | 34 => some [0, 3, 7, 8, 202]
  | 35 => some [0, 3, 7, 8, 11]
  | 36 => some [0, 7, 8, 11, 12]
  | 37 => some [0, 7, 8, 11, 12]
  | 38 => some [0, 7, 11]
  | 39 => some []
  | 40 => some [4]
  | _ => none
theorem f_quotaref18_Story_does.does {W : World} {H : HProp} {R : Ending → HProp → Prop} (a0 a1 : Value) (h : exec prog W tab 252 f_quotaref18_Story_does.live (codeOf Go.Proofs.Tryz.f44) (bodyQ prog W tab [.tmp 4] R) (argFr 0 [a0, a1]) [] H) : Does prog W f_quotaref18_Story_does ⟨[a0, a1]⟩ H R :=
  Does.of_exec tab_ok f_quotaref18_Story_does.live Go.Proofs.Tryz.func44 rfl rfl rfl (by simp) h
def f_quotaref18_Story_does.tree8 : PT := (.op 0 (.op 1 (.op 2 (.op 3 (.op 4 (.op 5 (.op 6 (.op 7 (.op 8 (.op 9 (.two 10 (.op 11 (.op 12 (.op 13 (.op 14 (.op 15 (.op 16 (.op 17 .nil))))))) 11 (.op 10 (.op 12 (.op 13 (.op 14 (.op 15 (.op 16 (.op 17 .nil))))))))))))))))))
def f_quotaref18_Story_does.plan13 : List Nat := [0, 1, 2, 3, 4, 5, 6, 7, 8]
def f_quotaref18_Story_does.last13 : List Nat := [7, 8]
def f_quotaref18_Story_does.plan19 : List Nat := [0, 1, 2, 3, 4, 5, 6, 7, 8, 9, 10, 11, 12, 13, 14]
def f_quotaref18_Story_does.last19 : List Nat := [12, 13, 14]
def f_quotaref18_Story_does.plan24 : List Nat := [0, 1, 2, 3, 4, 5, 6, 7, 8, 9, 10, 11, 12, 13, 14, 15, 16, 17, 18, 19]
def f_quotaref18_Story_does.last24 : List Nat := [18, 19]
def f_quotaref18_Story_does.plan26 : List Nat := [0, 1, 2, 3, 4, 5, 6, 7, 8, 9, 10, 11, 12, 13, 14]
def f_quotaref18_Story_does.last26 : List Nat := [12, 13, 14]
def f_quotaref18_Story_does.plan32 : List Nat := [0, 1, 2, 3, 4, 5, 6, 7, 8, 9, 10, 11, 12]
def f_quotaref18_Story_does.last32 : List Nat := [12]
def f_quotaref18_Story_does.plan35 : List Nat := [0, 1, 2, 3, 4, 5, 6, 7, 8]
def f_quotaref18_Story_does.last35 : List Nat := [7, 8]
def f_quotaref18_Story_does.plan38 : List Nat := [0, 1, 2, 3, 4, 5, 6, 7, 8, 9, 10, 11, 12, 13, 14, 15, 16, 17]
def f_quotaref18_Story_does.last38 : List Nat := [16, 17]
noncomputable abbrev f_quotalaw19_brought.def : Func := Go.Proofs.Tryz.f45
theorem f_quotalaw19_brought.fn : prog.funcs[f_quotalaw19_brought]? = some f_quotalaw19_brought.def := Go.Proofs.Tryz.func45
theorem f_quotalaw19_brought.ok : Callable prog f_quotalaw19_brought := callable_of Go.Proofs.Tryz.func45 (by kernel_rfl) rfl
def f_quotalaw19_brought.live : Nat → Option (List Nat) := fun i => match i with
  | 0 => some [0, 1]
  | 1 => some [0, 1]
  | 2 => some [0, 1, 9]
  | 3 => some [4]
  | 4 => some [4]
  | _ => none
theorem f_quotalaw19_brought.does {W : World} {H : HProp} {R : Ending → HProp → Prop} (a0 a1 : Value) (h : exec prog W tab 14 f_quotalaw19_brought.live (codeOf Go.Proofs.Tryz.f45) (bodyQ prog W tab [.tmp 4] R) (argFr 0 [a0, a1]) [] H) : Does prog W f_quotalaw19_brought ⟨[a0, a1]⟩ H R :=
  Does.of_exec tab_ok f_quotalaw19_brought.live Go.Proofs.Tryz.func45 rfl rfl rfl (by simp) h
noncomputable abbrev f_log_Log_Last.def : Func := Go.Proofs.Tryz.f46
theorem f_log_Log_Last.fn : prog.funcs[f_log_Log_Last]? = some f_log_Log_Last.def := Go.Proofs.Tryz.func46
theorem f_log_Log_Last.ok : Callable prog f_log_Log_Last := callable_of Go.Proofs.Tryz.func46 (by kernel_rfl) rfl
def f_log_Log_Last.live : Nat → Option (List Nat) := fun i => match i with
  | 0 => some [0]
  | 1 => some [2]
  | _ => none
theorem f_log_Log_Last.does {W : World} {H : HProp} {R : Ending → HProp → Prop} (a0 : Value) (h : exec prog W tab 8 f_log_Log_Last.live (codeOf Go.Proofs.Tryz.f46) (bodyQ prog W tab [.tmp 2] R) (argFr 0 [a0]) [] H) : Does prog W f_log_Log_Last ⟨[a0]⟩ H R :=
  Does.of_exec tab_ok f_log_Log_Last.live Go.Proofs.Tryz.func46 rfl rfl rfl (by simp) h
noncomputable abbrev f_log_Log_Get.def : Func := Go.Proofs.Tryz.f47
theorem f_log_Log_Get.fn : prog.funcs[f_log_Log_Get]? = some f_log_Log_Get.def := Go.Proofs.Tryz.func47
theorem f_log_Log_Get.ok : Callable prog f_log_Log_Get := callable_of Go.Proofs.Tryz.func47 (by kernel_rfl) rfl
def f_log_Log_Get.live : Nat → Option (List Nat) := fun i => match i with
  | 0 => some [0, 1, 4]
  | 1 => some [0, 1, 4, 6]
  | 2 => some [4, 5]
  | 3 => some [0, 1, 4, 13]
  | 4 => some [4, 5]
  | 5 => some [4, 5]
  | _ => none
theorem f_log_Log_Get.does {W : World} {H : HProp} {R : Ending → HProp → Prop} (a0 a1 : Value) (h : exec prog W tab 35 f_log_Log_Get.live (codeOf Go.Proofs.Tryz.f47) (bodyQ prog W tab [.cell 4 53, .tmp 5] R) (argFr 0 [a0, a1]) [] H) : Does prog W f_log_Log_Get ⟨[a0, a1]⟩ H R :=
  Does.of_exec tab_ok f_log_Log_Get.live Go.Proofs.Tryz.func47 rfl rfl rfl (by simp) h
noncomputable abbrev f_log_Log_Append.def : Func := Go.Proofs.Tryz.f48
theorem f_log_Log_Append.fn : prog.funcs[f_log_Log_Append]? = some f_log_Log_Append.def := Go.Proofs.Tryz.func48
theorem f_log_Log_Append.ok : Callable prog f_log_Log_Append := callable_of Go.Proofs.Tryz.func48 (by kernel_rfl) rfl
def f_log_Log_Append.live : Nat → Option (List Nat) := fun i => match i with
  | 0 => some [0, 3]
  | 1 => some [0, 3, 13]
  | 2 => some [4, 5]
  | 3 => some [0, 3]
  | 4 => some [0, 3, 6]
  | 5 => some [0, 3, 6, 24]
  | 6 => some [4, 5]
  | 7 => some [0, 3, 28]
  | 8 => some [4, 5]
  | 9 => some [0, 3, 7, 8]
  | 10 => some [0, 3, 7, 8, 35]
  | 11 => some [4, 5]
  | 12 => some [0, 3, 7]
  | 13 => some [3]
  | 14 => some [4, 5]
  | _ => none
theorem f_log_Log_Append.does {W : World} {H : HProp} {R : Ending → HProp → Prop} (a0 a1 : Value) (h : exec prog W tab 60 f_log_Log_Append.live (codeOf Go.Proofs.Tryz.f48) (bodyQ prog W tab [.tmp 4, .tmp 5] R) (argFr 0 [a0, a1]) [] H) : Does prog W f_log_Log_Append ⟨[a0, a1]⟩ H R :=
  Does.of_exec tab_ok f_log_Log_Append.live Go.Proofs.Tryz.func48 rfl rfl rfl (by simp) h
def f_log_Log_Append.plan12 : List Nat := [0, 1, 2, 3, 4, 5, 6, 7, 8, 9, 10, 11]
def f_log_Log_Append.last12 : List Nat := [9, 10, 11]
noncomputable abbrev f_txns_Table_Note.def : Func := Go.Proofs.Tryz.f49
theorem f_txns_Table_Note.fn : prog.funcs[f_txns_Table_Note]? = some f_txns_Table_Note.def := Go.Proofs.Tryz.func49
theorem f_txns_Table_Note.ok : Callable prog f_txns_Table_Note := callable_of Go.Proofs.Tryz.func49 (by kernel_rfl) rfl
def f_txns_Table_Note.live : Nat → Option (List Nat) := fun i => match i with
  | 0 => some [0, 3]
  | 1 => some [0, 3, 14]
  | 2 => some [4]
  | 3 => some [0, 3, 16]
  | 4 => some [0, 3, 16, 17]
  | 5 => some [0, 3, 16, 17]
  | 6 => some [4]
  | 7 => some [0, 3, 20]
  | 8 => some [0, 3, 28]
  | 9 => some [4]
  | 10 => some [6]
  | 11 => some [4]
  | 12 => some [0, 3, 7, 8]
  | 13 => some [0, 3, 7, 8, 9, 10]
  | 14 => some [0, 3, 7, 9, 10, 53]
  | 15 => some [4]
  | 16 => some [0, 3, 7, 9, 56]
  | 17 => some [4]
  | 18 => some [0, 3, 7, 9, 59]
  | 19 => some [4]
  | 20 => some [0, 3, 7, 9, 72]
  | 21 => some [4]
  | 22 => some [0, 3, 9]
  | 23 => some [0, 3, 9]
  | 24 => some [0, 3]
  | 25 => some [0, 3, 93]
  | 26 => some []
  | 27 => some [4]
  | _ => none
theorem f_txns_Table_Note.does {W : World} {H : HProp} {R : Ending → HProp → Prop} (a0 a1 : Value) (h : exec prog W tab 100 f_txns_Table_Note.live (codeOf Go.Proofs.Tryz.f49) (bodyQ prog W tab [.tmp 4] R) (argFr 0 [a0, a1]) [] H) : Does prog W f_txns_Table_Note ⟨[a0, a1]⟩ H R :=
  Does.of_exec tab_ok f_txns_Table_Note.live Go.Proofs.Tryz.func49 rfl rfl rfl (by simp) h
def f_txns_Table_Note.plan8 : List Nat := [0, 1, 2, 3, 4, 5, 6]
def f_txns_Table_Note.last8 : List Nat := [6]
def f_txns_Table_Note.plan13 : List Nat := [0, 1, 2, 3, 4, 5, 6, 7, 8, 9, 10, 11, 12]
def f_txns_Table_Note.last13 : List Nat := [12]
def f_txns_Table_Note.plan24 : List Nat := [0, 1, 2, 3, 4, 5, 6, 7]
def f_txns_Table_Note.last24 : List Nat := [7]
def f_txns_Table_Note.plan26 : List Nat := [0, 1, 2, 3, 4, 5, 6]
def f_txns_Table_Note.last26 : List Nat := [6]
noncomputable abbrev f_apply_changes.def : Func := Go.Proofs.Tryz.f50
theorem f_apply_changes.fn : prog.funcs[f_apply_changes]? = some f_apply_changes.def := Go.Proofs.Tryz.func50
theorem f_apply_changes.ok : Callable prog f_apply_changes := callable_of Go.Proofs.Tryz.func50 (by kernel_rfl) rfl
def f_apply_changes.live : Nat → Option (List Nat) := fun i => match i with
  | 0 => some [0]
  | 1 => some [2]
  | _ => none
theorem f_apply_changes.does {W : World} {H : HProp} {R : Ending → HProp → Prop} (a0 : Value) (h : exec prog W tab 13 f_apply_changes.live (codeOf Go.Proofs.Tryz.f50) (bodyQ prog W tab [.tmp 2] R) (argFr 0 [a0]) [] H) : Does prog W f_apply_changes ⟨[a0]⟩ H R :=
  Does.of_exec tab_ok f_apply_changes.live Go.Proofs.Tryz.func50 rfl rfl rfl (by simp) h
noncomputable abbrev f_pool_Pool_get.def : Func := Go.Proofs.Tryz.f51
theorem f_pool_Pool_get.fn : prog.funcs[f_pool_Pool_get]? = some f_pool_Pool_get.def := Go.Proofs.Tryz.func51
theorem f_pool_Pool_get.ok : Callable prog f_pool_Pool_get := callable_of Go.Proofs.Tryz.func51 (by kernel_rfl) rfl
def f_pool_Pool_get.live : Nat → Option (List Nat) := fun i => match i with
  | 0 => some [0, 1]
  | 1 => some [0, 1, 6]
  | 2 => some [0, 1, 6, 22]
  | 3 => some [4, 5]
  | 4 => some [0, 1, 7]
  | 5 => some [0, 1, 7, 31]
  | 6 => some [7]
  | 7 => some [4, 5]
  | 8 => some [0, 1, 46]
  | 9 => some [0, 1, 8, 9]
  | 10 => some [0, 1, 8, 53]
  | 11 => some [4, 5]
  | 12 => some [0, 1, 10]
  | 13 => some [0, 1, 10, 58]
  | 14 => some [4, 5]
  | 15 => some [0, 1, 11, 12]
  | 16 => some [0, 1, 11, 12, 70]
  | 17 => some [4, 5]
  | 18 => some [0, 1, 13, 14]
  | 19 => some [0, 1, 13, 15]
  | 20 => some [0, 1, 13, 15, 85]
  | 21 => some [4, 5]
  | 22 => some [0, 1, 12, 16]
  | 23 => some [0, 1, 12, 16, 94]
  | 24 => some [4, 5]
  | 25 => some [0, 1, 17]
  | 26 => some [0, 17]
  | 27 => some [17]
  | 28 => some [4, 5]
  | _ => none
theorem f_pool_Pool_get.does {W : World} {H : HProp} {R : Ending → HProp → Prop} (a0 a1 : Value) (h : exec prog W tab 109 f_pool_Pool_get.live (codeOf Go.Proofs.Tryz.f51) (bodyQ prog W tab [.tmp 4, .tmp 5] R) (argFr 0 [a0, a1]) [] H) : Does prog W f_pool_Pool_get ⟨[a0, a1]⟩ H R :=
  Does.of_exec tab_ok f_pool_Pool_get.live Go.Proofs.Tryz.func51 rfl rfl rfl (by simp) h
def f_pool_Pool_get.plan8 : List Nat := [0, 1, 2, 3, 4, 5, 6, 7, 8, 9, 10]
def f_pool_Pool_get.last8 : List Nat := [10]
noncomputable abbrev f_pool_result.def : Func := Go.Proofs.Tryz.f52
theorem f_pool_result.fn : prog.funcs[f_pool_result]? = some f_pool_result.def := Go.Proofs.Tryz.func52
theorem f_pool_result.ok : Callable prog f_pool_result := callable_of Go.Proofs.Tryz.func52 (by kernel_rfl) rfl
def f_pool_result.live : Nat → Option (List Nat) := fun i => match i with
  | 0 => some [0, 1, 2]
  | 1 => some [0, 1, 2, 8]
  | 2 => some [6]
  | 3 => some [6]
  | _ => none
theorem f_pool_result.does {W : World} {H : HProp} {R : Ending → HProp → Prop} (a0 a1 a2 : Value) (h : exec prog W tab 16 f_pool_result.live (codeOf Go.Proofs.Tryz.f52) (bodyQ prog W tab [.tmp 6] R) (argFr 0 [a0, a1, a2]) [] H) : Does prog W f_pool_result ⟨[a0, a1, a2]⟩ H R :=
  Does.of_exec tab_ok f_pool_result.live Go.Proofs.Tryz.func52 rfl rfl rfl (by simp) h
noncomputable abbrev f_page_Page_Copy.def : Func := Go.Proofs.Tryz.f53
theorem f_page_Page_Copy.fn : prog.funcs[f_page_Page_Copy]? = some f_page_Page_Copy.def := Go.Proofs.Tryz.func53
theorem f_page_Page_Copy.ok : Callable prog f_page_Page_Copy := callable_of Go.Proofs.Tryz.func53 (by kernel_rfl) rfl
def f_page_Page_Copy.live : Nat → Option (List Nat) := fun i => match i with
  | 0 => some [1, 2]
  | 1 => some [1, 2, 3]
  | 2 => some [2, 3]
  | 3 => some [2]
  | _ => none
theorem f_page_Page_Copy.does {W : World} {H : HProp} {R : Ending → HProp → Prop} (a0 : Value) (h : exec prog W tab 14 f_page_Page_Copy.live (codeOf Go.Proofs.Tryz.f53) (bodyQ prog W tab [.cell 2 104] R) (argFr 0 [a0]) [] H) : Does prog W f_page_Page_Copy ⟨[a0]⟩ H R :=
  Does.of_exec tab_ok f_page_Page_Copy.live Go.Proofs.Tryz.func53 rfl rfl rfl (by simp) h
def f_page_Page_Copy.plan2 : List Nat := [0, 1, 3, 4, 2, 6, 5, 7, 8, 9]
def f_page_Page_Copy.last2 : List Nat := [7, 8, 9]
noncomputable abbrev f_errors_As.def : Func := Go.Proofs.Tryz.f54
theorem f_errors_As.fn : prog.funcs[f_errors_As]? = some f_errors_As.def := Go.Proofs.Tryz.func54
theorem f_errors_As.ok : Callable prog f_errors_As := callable_of Go.Proofs.Tryz.func54 (by kernel_rfl) rfl
def f_errors_As.live : Nat → Option (List Nat) := fun i => match i with
  | 0 => some [0, 1]
  | 1 => some [0, 1, 9]
  | 2 => some [4]
  | 3 => some [0, 1, 11]
  | 4 => some [0, 1]
  | 5 => some [0, 1, 5]
  | 6 => some [0, 1, 5, 6]
  | 7 => some [0, 1, 5, 6, 23]
  | 8 => some [0, 1, 5, 6]
  | 9 => some [0, 1, 5, 7]
  | 10 => some [0, 1, 5, 7, 35]
  | 11 => some [0, 1, 5, 7]
  | 12 => some [4]
  | _ => none
theorem f_errors_As.does {W : World} {H : HProp} {R : Ending → HProp → Prop} (a0 a1 : Value) (h : exec prog W tab 42 f_errors_As.live (codeOf Go.Proofs.Tryz.f54) (bodyQ prog W tab [.tmp 4] R) (argFr 0 [a0, a1]) [] H) : Does prog W f_errors_As ⟨[a0, a1]⟩ H R :=
  Does.of_exec tab_ok f_errors_As.live Go.Proofs.Tryz.func54 rfl rfl rfl (by simp) h
noncomputable abbrev f_interval_Sub.def : Func := Go.Proofs.Tryz.f55
theorem f_interval_Sub.fn : prog.funcs[f_interval_Sub]? = some f_interval_Sub.def := Go.Proofs.Tryz.func55
theorem f_interval_Sub.ok : Callable prog f_interval_Sub := callable_of Go.Proofs.Tryz.func55 (by kernel_rfl) rfl
def f_interval_Sub.live : Nat → Option (List Nat) := fun i => match i with
  | 0 => some [0, 1]
  | 1 => some [4, 5]
  | _ => none
theorem f_interval_Sub.does {W : World} {H : HProp} {R : Ending → HProp → Prop} (a0 a1 : Value) (h : exec prog W tab 13 f_interval_Sub.live (codeOf Go.Proofs.Tryz.f55) (bodyQ prog W tab [.tmp 4, .tmp 5] R) (argFr 0 [a0, a1]) [] H) : Does prog W f_interval_Sub ⟨[a0, a1]⟩ H R :=
  Does.of_exec tab_ok f_interval_Sub.live Go.Proofs.Tryz.func55 rfl rfl rfl (by simp) h
noncomputable abbrev f_apply_Do_1.def : Func := Go.Proofs.Tryz.f56
theorem f_apply_Do_1.fn : prog.funcs[f_apply_Do_1]? = some f_apply_Do_1.def := Go.Proofs.Tryz.func56
theorem f_apply_Do_1.ok : Callable prog f_apply_Do_1 := callable_of Go.Proofs.Tryz.func56 (by kernel_rfl) rfl
def f_apply_Do_1.live : Nat → Option (List Nat) := fun i => match i with
  | 0 => some [0, 1, 2]
  | 1 => some [4, 5]
  | _ => none
theorem f_apply_Do_1.does {W : World} {H : HProp} {R : Ending → HProp → Prop} (a0 a1 a2 : Value) (h : exec prog W tab 13 f_apply_Do_1.live (codeOf Go.Proofs.Tryz.f56) (bodyQ prog W tab [.tmp 4, .tmp 5] R) (argFr 0 [a0, a1, a2]) [] H) : Does prog W f_apply_Do_1 ⟨[a0, a1, a2]⟩ H R :=
  Does.of_exec tab_ok f_apply_Do_1.live Go.Proofs.Tryz.func56 rfl rfl rfl (by simp) h
noncomputable abbrev f_apply_counter.def : Func := Go.Proofs.Tryz.f57
theorem f_apply_counter.fn : prog.funcs[f_apply_counter]? = some f_apply_counter.def := Go.Proofs.Tryz.func57
theorem f_apply_counter.ok : Callable prog f_apply_counter := callable_of Go.Proofs.Tryz.func57 (by kernel_rfl) rfl
def f_apply_counter.live : Nat → Option (List Nat) := fun i => match i with
  | 0 => some [0, 2, 4]
  | 1 => some [0, 2, 4, 7]
  | 2 => some [0, 2, 4, 7, 18]
  | 3 => some [6]
  | 4 => some [0, 2, 4, 7, 21]
  | 5 => some [0, 4, 32]
  | 6 => some [6]
  | 7 => some []
  | 8 => some [6]
  | 9 => some [0, 2, 7, 68]
  | 10 => some [6]
  | 11 => some [0, 7, 8, 9]
  | 12 => some [0, 7, 8, 9, 83]
  | 13 => some [6]
  | 14 => some []
  | 15 => some [6]
  | _ => none
theorem f_apply_counter.does {W : World} {H : HProp} {R : Ending → HProp → Prop} (a0 a1 a2 : Value) (h : exec prog W tab 93 f_apply_counter.live (codeOf Go.Proofs.Tryz.f57) (bodyQ prog W tab [.tmp 6] R) (argFr 0 [a0, a1, a2]) [] H) : Does prog W f_apply_counter ⟨[a0, a1, a2]⟩ H R :=
  Does.of_exec tab_ok f_apply_counter.live Go.Proofs.Tryz.func57 rfl rfl rfl (by simp) h
def f_apply_counter.plan7 : List Nat := [0, 1, 2, 3, 4, 5, 6, 7, 8, 9, 10, 11]
def f_apply_counter.last7 : List Nat := [9, 10, 11]
def f_apply_counter.plan9 : List Nat := [0, 1, 2, 3, 4, 5, 6, 7, 8, 9, 10, 11, 12, 13, 14, 15, 16, 17, 18, 19, 20, 21, 22, 23, 24]
def f_apply_counter.last9 : List Nat := [23, 24]
noncomputable abbrev f_apply_sum.def : Func := Go.Proofs.Tryz.f58
theorem f_apply_sum.fn : prog.funcs[f_apply_sum]? = some f_apply_sum.def := Go.Proofs.Tryz.func58
theorem f_apply_sum.ok : Callable prog f_apply_sum := callable_of Go.Proofs.Tryz.func58 (by kernel_rfl) rfl
def f_apply_sum.live : Nat → Option (List Nat) := fun i => match i with
  | 0 => some [0, 2, 4]
  | 1 => some [0, 2, 4, 7]
  | 2 => some [0, 2, 4, 7, 19]
  | 3 => some [6]
  | 4 => some [0, 2, 4, 7, 8]
  | 5 => some [0, 2, 4, 7, 8, 33]
  | 6 => some [0, 4, 7, 8, 48]
  | 7 => some []
  | 8 => some [6]
  | 9 => some [0, 4, 7, 8, 80]
  | 10 => some [6]
  | 11 => some [0, 2, 7, 8]
  | 12 => some [0, 2, 7, 83]
  | 13 => some [6]
  | 14 => some [0, 7, 9, 10]
  | 15 => some [0, 7, 9, 10, 98]
  | 16 => some [6]
  | 17 => some []
  | 18 => some [6]
  | _ => none
theorem f_apply_sum.does {W : World} {H : HProp} {R : Ending → HProp → Prop} (a0 a1 a2 : Value) (h : exec prog W tab 108 f_apply_sum.live (codeOf Go.Proofs.Tryz.f58) (bodyQ prog W tab [.tmp 6] R) (argFr 0 [a0, a1, a2]) [] H) : Does prog W f_apply_sum ⟨[a0, a1, a2]⟩ H R :=
  Does.of_exec tab_ok f_apply_sum.live Go.Proofs.Tryz.func58 rfl rfl rfl (by simp) h
def f_apply_sum.plan7 : List Nat := [0, 1, 2, 3, 4, 5, 6, 7, 8, 9, 10, 11, 12, 13, 14, 15, 16]
def f_apply_sum.last7 : List Nat := [14, 15, 16]
def f_apply_sum.plan9 : List Nat := [0, 1, 2, 3, 4, 5, 6, 7, 8, 9, 10, 11, 12, 13, 14, 15]
def f_apply_sum.last9 : List Nat := [14, 15]
noncomputable abbrev f_pool_Pool_put.def : Func := Go.Proofs.Tryz.f59
theorem f_pool_Pool_put.fn : prog.funcs[f_pool_Pool_put]? = some f_pool_Pool_put.def := Go.Proofs.Tryz.func59
theorem f_pool_Pool_put.ok : Callable prog f_pool_Pool_put := callable_of Go.Proofs.Tryz.func59 (by kernel_rfl) rfl
def f_pool_Pool_put.live : Nat → Option (List Nat) := fun i => match i with
  | 0 => some [0, 3]
  | 1 => some [0, 3, 5]
  | 2 => some [0, 3, 5, 14]
  | 3 => some [4]
  | 4 => some [0, 3, 7]
  | 5 => some [0, 3, 7, 22]
  | 6 => some [4]
  | 7 => some [0, 3, 8]
  | 8 => some [0, 3, 8, 32]
  | 9 => some [4]
  | 10 => some [0, 3, 8, 50]
  | 11 => some [4]
  | 12 => some [0, 3, 8]
  | 13 => some [0, 3, 8, 60]
  | 14 => some [0, 8]
  | 15 => some []
  | 16 => some [4]
  | _ => none
theorem f_pool_Pool_put.does {W : World} {H : HProp} {R : Ending → HProp → Prop} (a0 a1 : Value) (h : exec prog W tab 72 f_pool_Pool_put.live (codeOf Go.Proofs.Tryz.f59) (bodyQ prog W tab [.tmp 4] R) (argFr 0 [a0, a1]) [] H) : Does prog W f_pool_Pool_put ⟨[a0, a1]⟩ H R :=
  Does.of_exec tab_ok f_pool_Pool_put.live Go.Proofs.Tryz.func59 rfl rfl rfl (by simp) h
def f_pool_Pool_put.plan7 : List Nat := [0, 1, 2, 3, 4, 5, 6, 7]
def f_pool_Pool_put.last7 : List Nat := [6, 7]
def f_pool_Pool_put.plan10 : List Nat := [0, 1, 2, 3, 4, 5, 6, 7, 8, 9, 10, 11, 12, 13, 14, 15, 16, 17]
def f_pool_Pool_put.last10 : List Nat := [16, 17]
def f_pool_Pool_put.plan14 : List Nat := [0, 1, 2, 3, 4, 5, 6, 7, 8, 9]
def f_pool_Pool_put.last14 : List Nat := [7, 8, 9]
noncomputable abbrev f_slices_AppendSeq_S_int_int.def : Func := Go.Proofs.Tryz.f61
theorem f_slices_AppendSeq_S_int_int.fn : prog.funcs[f_slices_AppendSeq_S_int_int]? = some f_slices_AppendSeq_S_int_int.def := Go.Proofs.Tryz.func61
theorem f_slices_AppendSeq_S_int_int.ok : Callable prog f_slices_AppendSeq_S_int_int := callable_of Go.Proofs.Tryz.func61 (by kernel_rfl) rfl
def f_slices_AppendSeq_S_int_int.live : Nat → Option (List Nat) := fun i => match i with
  | 0 => some [1, 2, 7]
  | 1 => some [2, 6, 7]
  | 2 => some [2, 5]
  | 3 => some [2]
  | 4 => some [4]
  | _ => none
theorem f_slices_AppendSeq_S_int_int.does {W : World} {H : HProp} {R : Ending → HProp → Prop} (a0 a1 : Value) (h : exec prog W tab 13 f_slices_AppendSeq_S_int_int.live (codeOf Go.Proofs.Tryz.f61) (bodyQ prog W tab [.tmp 4] R) (argFr 0 [a0, a1]) [] H) : Does prog W f_slices_AppendSeq_S_int_int ⟨[a0, a1]⟩ H R :=
  Does.of_exec tab_ok f_slices_AppendSeq_S_int_int.live Go.Proofs.Tryz.func61 rfl rfl rfl (by simp) h
noncomputable abbrev f_slices_pdqsortOrdered_int.def : Func := Go.Proofs.Tryz.f62
theorem f_slices_pdqsortOrdered_int.fn : prog.funcs[f_slices_pdqsortOrdered_int]? = some f_slices_pdqsortOrdered_int.def := Go.Proofs.Tryz.func62
theorem f_slices_pdqsortOrdered_int.ok : Callable prog f_slices_pdqsortOrdered_int := callable_of Go.Proofs.Tryz.func62 (by kernel_rfl) rfl
def f_slices_pdqsortOrdered_int.live : Nat → Option (List Nat) := fun i => match i with
  | 0 => some [0, 1, 2, 3, 8]
  | 1 => some [0, 1, 2, 3, 8, 9]
  | 2 => some [0, 1, 2, 3, 8, 9, 10]
  | 3 => some [0, 1, 2, 3, 8, 9, 10, 23]
  | 4 => some []
  | 5 => some [0, 1, 2, 3, 8, 9, 10, 29]
  | 6 => some []
  | 7 => some [0, 1, 2, 3, 8, 9, 10, 35]
  | 8 => some [0, 1, 2, 3, 8, 9, 10]
  | 9 => some [0, 1, 2, 3, 8, 9, 10]
  | 10 => some [0, 1, 2, 3, 8, 9, 10, 11, 12]
  | 11 => some [0, 1, 2, 3, 8, 9, 10, 11, 12, 50]
  | 12 => some [0, 1, 2, 3, 8, 9, 10, 11]
  | 13 => some [0, 1, 2, 3, 8, 9, 10, 11]
  | 14 => some [0, 1, 2, 3, 8, 9, 10, 11, 12]
  | 15 => some [0, 1, 2, 3, 8, 9, 10, 11, 68]
  | 16 => some [0, 1, 2, 3, 8, 9, 10, 11, 72]
  | 17 => some [0, 1, 2, 3, 8, 9, 10, 11, 87]
  | 18 => some [0, 2, 3, 8, 9, 13]
  | 19 => some [0, 1, 2, 3, 8, 9]
  | 20 => some [0, 1, 2, 3, 10, 14, 15]
  | 21 => some [0, 1, 2, 3, 9, 10, 14]
  | 22 => some [0, 1, 2, 3, 9, 10, 14, 16, 17]
  | 23 => some [0, 1, 2, 3, 9, 14, 16, 17, 18]
  | 24 => some [0, 1, 2, 3, 9, 14, 16, 17, 18, 113]
  | 25 => some [0, 1, 2, 3, 8, 9, 14]
  | 26 => some [0, 2, 3, 8, 9, 14]
  | 27 => some [0, 1, 2, 3, 8, 9]
  | 28 => some [0, 1, 2, 3, 8, 9, 14]
  | 29 => some [0, 1, 3, 8, 9, 14]
  | 30 => some [0, 1, 2, 3, 8, 9]
  | _ => none
theorem f_slices_pdqsortOrdered_int.does {W : World} {H : HProp} {R : Ending → HProp → Prop} (a0 a1 a2 a3 : Value) (h : exec prog W tab 134 f_slices_pdqsortOrdered_int.live (codeOf Go.Proofs.Tryz.f62) (bodyQ prog W tab [] R) (argFr 0 [a0, a1, a2, a3]) [] H) : Does prog W f_slices_pdqsortOrdered_int ⟨[a0, a1, a2, a3]⟩ H R :=
  Does.of_exec tab_ok f_slices_pdqsortOrdered_int.live Go.Proofs.Tryz.func62 rfl rfl rfl (by simp) h
def f_slices_pdqsortOrdered_int.plan17 : List Nat := [0, 1, 2, 3, 4, 5, 6, 7, 8, 9, 10, 11, 12, 13, 14]
def f_slices_pdqsortOrdered_int.last17 : List Nat := [12, 13, 14]
noncomputable abbrev f_math_bits_Len.def : Func := Go.Proofs.Tryz.f63
theorem f_math_bits_Len.fn : prog.funcs[f_math_bits_Len]? = some f_math_bits_Len.def := Go.Proofs.Tryz.func63
theorem f_math_bits_Len.ok : Callable prog f_math_bits_Len := callable_of Go.Proofs.Tryz.func63 (by kernel_rfl) rfl
def f_math_bits_Len.live : Nat → Option (List Nat) := fun i => match i with
  | 0 => some [0]
  | 1 => some [2]
  | 2 => some [2]
  | _ => none
theorem f_math_bits_Len.does {W : World} {H : HProp} {R : Ending → HProp → Prop} (a0 : Value) (h : exec prog W tab 8 f_math_bits_Len.live (codeOf Go.Proofs.Tryz.f63) (bodyQ prog W tab [.tmp 2] R) (argFr 0 [a0]) [] H) : Does prog W f_math_bits_Len ⟨[a0]⟩ H R :=
  Does.of_exec tab_ok f_math_bits_Len.live Go.Proofs.Tryz.func63 rfl rfl rfl (by simp) h
noncomputable abbrev f_quotaref18_brought.def : Func := Go.Proofs.Tryz.f64
theorem f_quotaref18_brought.fn : prog.funcs[f_quotaref18_brought]? = some f_quotaref18_brought.def := Go.Proofs.Tryz.func64
theorem f_quotaref18_brought.ok : Callable prog f_quotaref18_brought := callable_of Go.Proofs.Tryz.func64 (by kernel_rfl) rfl
def f_quotaref18_brought.live : Nat → Option (List Nat) := fun i => match i with
  | 0 => some [0, 1]
  | 1 => some [0, 1]
  | 2 => some [0, 1, 9]
  | 3 => some [4]
  | 4 => some [4]
  | _ => none
theorem f_quotaref18_brought.does {W : World} {H : HProp} {R : Ending → HProp → Prop} (a0 a1 : Value) (h : exec prog W tab 14 f_quotaref18_brought.live (codeOf Go.Proofs.Tryz.f64) (bodyQ prog W tab [.tmp 4] R) (argFr 0 [a0, a1]) [] H) : Does prog W f_quotaref18_brought ⟨[a0, a1]⟩ H R :=
  Does.of_exec tab_ok f_quotaref18_brought.live Go.Proofs.Tryz.func64 rfl rfl rfl (by simp) h
noncomputable abbrev f_quotaref18_Story_makes.def : Func := Go.Proofs.Tryz.f65
theorem f_quotaref18_Story_makes.fn : prog.funcs[f_quotaref18_Story_makes]? = some f_quotaref18_Story_makes.def := Go.Proofs.Tryz.func65
theorem f_quotaref18_Story_makes.ok : Callable prog f_quotaref18_Story_makes := callable_of Go.Proofs.Tryz.func65 (by kernel_rfl) rfl
def f_quotaref18_Story_makes.live : Nat → Option (List Nat) := fun i => match i with
  | 0 => some [0, 3]
  | 1 => some [0, 3, 4]
  | 2 => some [0, 3, 4, 5]
  | 3 => some [0, 3, 4, 5, 6]
  | 4 => some [0, 3, 4, 5, 6, 22]
  | 5 => some [0, 3, 4, 5, 6]
  | 6 => some [0, 3, 4, 5, 6, 33]
  | 7 => some [0, 3, 4, 5, 6]
  | 8 => some [0, 3, 4, 5, 36]
  | 9 => some [0, 3, 4, 5]
  | 10 => some [0, 3, 4, 5]
  | 11 => some [0, 3, 4, 5]
  | 12 => some [0, 3, 4, 5, 7]
  | 13 => some [0, 3, 4, 5, 7, 8]
  | 14 => some [0, 3, 4, 5, 7, 9]
  | 15 => some [0, 3, 4, 5, 7, 9, 84]
  | 16 => some [0, 4, 5, 7, 9, 10]
  | 17 => some [0, 5, 9, 10, 11]
  | 18 => some [0, 5, 9, 10, 11]
  | 19 => some [0, 5, 9, 11]
  | 20 => some []
  | _ => none
theorem f_quotaref18_Story_makes.does {W : World} {H : HProp} {R : Ending → HProp → Prop} (a0 a1 : Value) (h : exec prog W tab 135 f_quotaref18_Story_makes.live (codeOf Go.Proofs.Tryz.f65) (bodyQ prog W tab [] R) (argFr 0 [a0, a1]) [] H) : Does prog W f_quotaref18_Story_makes ⟨[a0, a1]⟩ H R :=
  Does.of_exec tab_ok f_quotaref18_Story_makes.live Go.Proofs.Tryz.func65 rfl rfl rfl (by simp) h
def f_quotaref18_Story_makes.plan14 : List Nat := [0, 1, 2, 3, 4, 5, 6, 7, 8, 9]
def f_quotaref18_Story_makes.last14 : List Nat := [9]
def f_quotaref18_Story_makes.plan18 : List Nat := [0, 1, 2, 3, 4, 5, 6, 7, 8, 9, 10, 11, 12, 13, 14, 15, 16, 17, 18, 19]
def f_quotaref18_Story_makes.last18 : List Nat := [17, 18, 19]
def f_quotaref18_Story_makes.plan20 : List Nat := [0, 1, 2, 3, 4, 5, 6, 7, 8, 9, 10, 11]
def f_quotaref18_Story_makes.last20 : List Nat := [11]
noncomputable abbrev f_quotaref18_Story_writes.def : Func := Go.Proofs.Tryz.f66
theorem f_quotaref18_Story_writes.fn : prog.funcs[f_quotaref18_Story_writes]? = some f_quotaref18_Story_writes.def := Go.Proofs.Tryz.func66
theorem f_quotaref18_Story_writes.ok : Callable prog f_quotaref18_Story_writes := callable_of Go.Proofs.Tryz.func66 (by kernel_rfl) rfl
def f_quotaref18_Story_writes.live : Nat → Option (List Nat) := fun i => match i with
  | 0 => some [0, 3]
  | 1 => some [0, 3]
  | 2 => some [3]
  | 3 => some [4]
  | _ => none
theorem f_quotaref18_Story_writes.does {W : World} {H : HProp} {R : Ending → HProp → Prop} (a0 a1 : Value) (h : exec prog W tab 24 f_quotaref18_Story_writes.live (codeOf Go.Proofs.Tryz.f66) (bodyQ prog W tab [.tmp 4] R) (argFr 0 [a0, a1]) [] H) : Does prog W f_quotaref18_Story_writes ⟨[a0, a1]⟩ H R :=
  Does.of_exec tab_ok f_quotaref18_Story_writes.live Go.Proofs.Tryz.func66 rfl rfl rfl (by simp) h
def f_quotaref18_Story_writes.plan2 : List Nat := [0, 1, 2, 3, 4, 5, 6, 7, 8, 9, 10]
def f_quotaref18_Story_writes.last2 : List Nat := [8, 9, 10]
noncomputable abbrev f_quotaref18_Story_leaves.def : Func := Go.Proofs.Tryz.f67
theorem f_quotaref18_Story_leaves.fn : prog.funcs[f_quotaref18_Story_leaves]? = some f_quotaref18_Story_leaves.def := Go.Proofs.Tryz.func67
theorem f_quotaref18_Story_leaves.ok : Callable prog f_quotaref18_Story_leaves := callable_of Go.Proofs.Tryz.func67 (by kernel_rfl) rfl
def f_quotaref18_Story_leaves.live : Nat → Option (List Nat) := fun i => match i with
  | 0 => some [0, 1, 4]
  | 1 => some [0, 1, 4]
  | 2 => some []
  | _ => none
theorem f_quotaref18_Story_leaves.does {W : World} {H : HProp} {R : Ending → HProp → Prop} (a0 a1 : Value) (h : exec prog W tab 25 f_quotaref18_Story_leaves.live (codeOf Go.Proofs.Tryz.f67) (bodyQ prog W tab [] R) (argFr 0 [a0, a1]) [] H) : Does prog W f_quotaref18_Story_leaves ⟨[a0, a1]⟩ H R :=
  Does.of_exec tab_ok f_quotaref18_Story_leaves.live Go.Proofs.Tryz.func67 rfl rfl rfl (by simp) h
noncomputable abbrev f_quotaref18_Story_change.def : Func := Go.Proofs.Tryz.f68
theorem f_quotaref18_Story_change.fn : prog.funcs[f_quotaref18_Story_change]? = some f_quotaref18_Story_change.def := Go.Proofs.Tryz.func68
theorem f_quotaref18_Story_change.ok : Callable prog f_quotaref18_Story_change := callable_of Go.Proofs.Tryz.func68 (by kernel_rfl) rfl
def f_quotaref18_Story_change.live : Nat → Option (List Nat) := fun i => match i with
  | 0 => some [0, 1, 2, 3, 4, 10]
  | 1 => some [0, 1, 2, 4, 10, 11]
  | 2 => some []
  | _ => none
theorem f_quotaref18_Story_change.does {W : World} {H : HProp} {R : Ending → HProp → Prop} (a0 a1 a2 a3 a4 : Value) (h : exec prog W tab 50 f_quotaref18_Story_change.live (codeOf Go.Proofs.Tryz.f68) (bodyQ prog W tab [] R) (argFr 0 [a0, a1, a2, a3, a4]) [] H) : Does prog W f_quotaref18_Story_change ⟨[a0, a1, a2, a3, a4]⟩ H R :=
  Does.of_exec tab_ok f_quotaref18_Story_change.live Go.Proofs.Tryz.func68 rfl rfl rfl (by simp) h
def f_quotaref18_Story_change.plan2 : List Nat := [0, 1, 2, 3, 4, 5, 6, 7, 8, 9, 10, 11, 12, 13, 14, 15, 16, 17, 18, 19, 20, 21, 22, 23, 24]
def f_quotaref18_Story_change.last2 : List Nat := [22, 23, 24]
noncomputable abbrev f_log_own.def : Func := Go.Proofs.Tryz.f69
theorem f_log_own.fn : prog.funcs[f_log_own]? = some f_log_own.def := Go.Proofs.Tryz.func69
theorem f_log_own.ok : Callable prog f_log_own := callable_of Go.Proofs.Tryz.func69 (by kernel_rfl) rfl
def f_log_own.live : Nat → Option (List Nat) := fun i => match i with
  | 0 => some [1, 2]
  | 1 => some [1, 2]
  | 2 => some [1, 2]
  | 3 => some [2]
  | _ => none
theorem f_log_own.does {W : World} {H : HProp} {R : Ending → HProp → Prop} (a0 : Value) (h : exec prog W tab 16 f_log_own.live (codeOf Go.Proofs.Tryz.f69) (bodyQ prog W tab [.cell 2 53] R) (argFr 0 [a0]) [] H) : Does prog W f_log_own ⟨[a0]⟩ H R :=
  Does.of_exec tab_ok f_log_own.live Go.Proofs.Tryz.func69 rfl rfl rfl (by simp) h
noncomputable abbrev f_record_Check.def : Func := Go.Proofs.Tryz.f70
theorem f_record_Check.fn : prog.funcs[f_record_Check]? = some f_record_Check.def := Go.Proofs.Tryz.func70
theorem f_record_Check.ok : Callable prog f_record_Check := callable_of Go.Proofs.Tryz.func70 (by kernel_rfl) rfl
def f_record_Check.live : Nat → Option (List Nat) := fun i => match i with
  | 0 => some [1]
  | 1 => some [1, 13]
  | 2 => some [2]
  | 3 => some [1, 3]
  | 4 => some [1, 3, 4]
  | 5 => some [1, 3, 4, 19]
  | 6 => some [1, 3, 4, 19, 20]
  | 7 => some [1, 3, 4, 19, 22]
  | 8 => some [1, 3, 4, 19, 24]
  | 9 => some [1, 3, 4, 19, 24]
  | 10 => some [1, 3, 4, 19, 27]
  | 11 => some [1, 3, 4, 19, 27]
  | 12 => some [1, 3, 4, 19, 27]
  | 13 => some [1, 3, 4, 31]
  | 14 => some [1, 3, 4, 5]
  | 15 => some [3, 4]
  | 16 => some [3, 4]
  | 17 => some [3, 4]
  | 18 => some [3, 4]
  | 19 => some [1, 3, 4]
  | 20 => some [1, 3, 4]
  | 21 => some [1, 3, 4]
  | 22 => some [1, 3, 4]
  | 23 => some [3, 4]
  | 24 => some [3, 4]
  | 25 => some [133]
  | 26 => some [2]
  | 27 => some [2]
  | _ => none
theorem f_record_Check.does {W : World} {H : HProp} {R : Ending → HProp → Prop} (a0 : Value) (h : exec prog W tab 134 f_record_Check.live (codeOf Go.Proofs.Tryz.f70) (bodyQ prog W tab [.tmp 2] R) (argFr 0 [a0]) [] H) : Does prog W f_record_Check ⟨[a0]⟩ H R :=
  Does.of_exec tab_ok f_record_Check.live Go.Proofs.Tryz.func70 rfl rfl rfl (by simp) h
noncomputable abbrev f_log_Log_Free.def : Func := Go.Proofs.Tryz.f71
theorem f_log_Log_Free.fn : prog.funcs[f_log_Log_Free]? = some f_log_Log_Free.def := Go.Proofs.Tryz.func71
theorem f_log_Log_Free.ok : Callable prog f_log_Log_Free := callable_of Go.Proofs.Tryz.func71 (by kernel_rfl) rfl
def f_log_Log_Free.live : Nat → Option (List Nat) := fun i => match i with
  | 0 => some [0]
  | 1 => some [2]
  | _ => none
theorem f_log_Log_Free.does {W : World} {H : HProp} {R : Ending → HProp → Prop} (a0 : Value) (h : exec prog W tab 13 f_log_Log_Free.live (codeOf Go.Proofs.Tryz.f71) (bodyQ prog W tab [.tmp 2] R) (argFr 0 [a0]) [] H) : Does prog W f_log_Log_Free ⟨[a0]⟩ H R :=
  Does.of_exec tab_ok f_log_Log_Free.live Go.Proofs.Tryz.func71 rfl rfl rfl (by simp) h
def f_log_Log_Free.plan1 : List Nat := [0, 1, 2, 3, 4, 5, 6, 7, 8, 9, 10]
def f_log_Log_Free.last1 : List Nat := [9, 10]
noncomputable abbrev f_record_Encode.def : Func := Go.Proofs.Tryz.f72
theorem f_record_Encode.fn : prog.funcs[f_record_Encode]? = some f_record_Encode.def := Go.Proofs.Tryz.func72
theorem f_record_Encode.ok : Callable prog f_record_Encode := callable_of Go.Proofs.Tryz.func72 (by kernel_rfl) rfl
def f_record_Encode.live : Nat → Option (List Nat) := fun i => match i with
  | 0 => some [1]
  | 1 => some [1, 4]
  | 2 => some [1, 4, 19]
  | 3 => some [2, 3]
  | 4 => some [1, 5]
  | 5 => some [1, 5]
  | 6 => some [1, 5, 6, 7]
  | 7 => some [1, 5, 7, 31, 32, 33]
  | 8 => some [1, 5, 7, 31, 32, 33, 34]
  | 9 => some [1, 5, 7, 9, 31, 32, 33]
  | 10 => some [1, 5, 7, 31, 32, 33]
  | 11 => some [1, 5, 7, 31, 32, 33]
  | 12 => some [1, 5, 44, 45, 46]
  | 13 => some [1, 5, 44, 45, 46, 47]
  | 14 => some [1, 5, 11, 44, 45, 46]
  | 15 => some [1, 5, 44, 45, 46]
  | 16 => some [1, 5, 44, 45, 46]
  | 17 => some [1, 5, 58]
  | 18 => some [1, 5]
  | 19 => some [1, 5, 68, 69, 70]
  | 20 => some [1, 5, 68, 69, 70, 71]
  | 21 => some [1, 5, 13, 68, 69, 70]
  | 22 => some [1, 5, 13, 68, 69, 70]
  | 23 => some [1, 5, 13, 68, 69, 70]
  | 24 => some [1, 5, 68, 69, 70]
  | 25 => some [1, 5, 68, 69, 70]
  | 26 => some [1, 5]
  | 27 => some [5, 98, 99, 100]
  | 28 => some [5, 98, 99, 100, 101]
  | 29 => some [5, 15, 98, 99, 100]
  | 30 => some [5, 15, 98, 99, 100]
  | 31 => some [5, 98, 99, 100]
  | 32 => some [5, 98, 99, 100]
  | 33 => some [2, 3]
  | _ => none
theorem f_record_Encode.does {W : World} {H : HProp} {R : Ending → HProp → Prop} (a0 : Value) (h : exec prog W tab 117 f_record_Encode.live (codeOf Go.Proofs.Tryz.f72) (bodyQ prog W tab [.tmp 2, .tmp 3] R) (argFr 0 [a0]) [] H) : Does prog W f_record_Encode ⟨[a0]⟩ H R :=
  Does.of_exec tab_ok f_record_Encode.live Go.Proofs.Tryz.func72 rfl rfl rfl (by simp) h
noncomputable abbrev f_txns_in.def : Func := Go.Proofs.Tryz.f73
theorem f_txns_in.fn : prog.funcs[f_txns_in]? = some f_txns_in.def := Go.Proofs.Tryz.func73
theorem f_txns_in.ok : Callable prog f_txns_in := callable_of Go.Proofs.Tryz.func73 (by kernel_rfl) rfl
def f_txns_in.live : Nat → Option (List Nat) := fun i => match i with
  | 0 => some [0, 1, 2]
  | 1 => some [6]
  | _ => none
theorem f_txns_in.does {W : World} {H : HProp} {R : Ending → HProp → Prop} (a0 a1 a2 : Value) (h : exec prog W tab 15 f_txns_in.live (codeOf Go.Proofs.Tryz.f73) (bodyQ prog W tab [.tmp 6] R) (argFr 0 [a0, a1, a2]) [] H) : Does prog W f_txns_in ⟨[a0, a1, a2]⟩ H R :=
  Does.of_exec tab_ok f_txns_in.live Go.Proofs.Tryz.func73 rfl rfl rfl (by simp) h
noncomputable abbrev f_txns_Table_Begin.def : Func := Go.Proofs.Tryz.f74
theorem f_txns_Table_Begin.fn : prog.funcs[f_txns_Table_Begin]? = some f_txns_Table_Begin.def := Go.Proofs.Tryz.func74
theorem f_txns_Table_Begin.ok : Callable prog f_txns_Table_Begin := callable_of Go.Proofs.Tryz.func74 (by kernel_rfl) rfl
def f_txns_Table_Begin.live : Nat → Option (List Nat) := fun i => match i with
  | 0 => some [0, 1]
  | 1 => some [0, 1, 9]
  | 2 => some [4, 5]
  | 3 => some [0, 1, 22]
  | 4 => some [4, 5]
  | 5 => some [0, 1, 6]
  | 6 => some [0, 6]
  | 7 => some [6]
  | 8 => some [4, 5]
  | _ => none
theorem f_txns_Table_Begin.does {W : World} {H : HProp} {R : Ending → HProp → Prop} (a0 a1 : Value) (h : exec prog W tab 43 f_txns_Table_Begin.live (codeOf Go.Proofs.Tryz.f74) (bodyQ prog W tab [.tmp 4, .tmp 5] R) (argFr 0 [a0, a1]) [] H) : Does prog W f_txns_Table_Begin ⟨[a0, a1]⟩ H R :=
  Does.of_exec tab_ok f_txns_Table_Begin.live Go.Proofs.Tryz.func74 rfl rfl rfl (by simp) h
noncomputable abbrev f_txns_moves.def : Func := Go.Proofs.Tryz.f75
theorem f_txns_moves.fn : prog.funcs[f_txns_moves]? = some f_txns_moves.def := Go.Proofs.Tryz.func75
theorem f_txns_moves.ok : Callable prog f_txns_moves := callable_of Go.Proofs.Tryz.func75 (by kernel_rfl) rfl
def f_txns_moves.live : Nat → Option (List Nat) := fun i => match i with
  | 0 => some [0, 2]
  | 1 => some [2, 4]
  | 2 => some [2, 4, 5]
  | 3 => some [2, 3]
  | 4 => some [2, 4, 8]
  | 5 => some [2, 3]
  | 6 => some [2, 4, 11]
  | 7 => some [2, 3]
  | 8 => some [2, 4, 14]
  | 9 => some [2, 3]
  | 10 => some [2, 17]
  | 11 => some [2, 3]
  | 12 => some [2, 3]
  | _ => none
theorem f_txns_moves.does {W : World} {H : HProp} {R : Ending → HProp → Prop} (a0 : Value) (h : exec prog W tab 21 f_txns_moves.live (codeOf Go.Proofs.Tryz.f75) (bodyQ prog W tab [.cell 2 170, .tmp 3] R) (argFr 0 [a0]) [] H) : Does prog W f_txns_moves ⟨[a0]⟩ H R :=
  Does.of_exec tab_ok f_txns_moves.live Go.Proofs.Tryz.func75 rfl rfl rfl (by simp) h
noncomputable abbrev f_pool_Pool_place.def : Func := Go.Proofs.Tryz.f76
theorem f_pool_Pool_place.fn : prog.funcs[f_pool_Pool_place]? = some f_pool_Pool_place.def := Go.Proofs.Tryz.func76
theorem f_pool_Pool_place.ok : Callable prog f_pool_Pool_place := callable_of Go.Proofs.Tryz.func76 (by kernel_rfl) rfl
def f_pool_Pool_place.live : Nat → Option (List Nat) := fun i => match i with
  | 0 => some [0, 1]
  | 1 => some [0, 1, 8]
  | 2 => some [4]
  | 3 => some [19]
  | 4 => some [4]
  | 5 => some [4]
  | _ => none
theorem f_pool_Pool_place.does {W : World} {H : HProp} {R : Ending → HProp → Prop} (a0 a1 : Value) (h : exec prog W tab 20 f_pool_Pool_place.live (codeOf Go.Proofs.Tryz.f76) (bodyQ prog W tab [.tmp 4] R) (argFr 0 [a0, a1]) [] H) : Does prog W f_pool_Pool_place ⟨[a0, a1]⟩ H R :=
  Does.of_exec tab_ok f_pool_Pool_place.live Go.Proofs.Tryz.func76 rfl rfl rfl (by simp) h
noncomputable abbrev f_pool_Pool_use.def : Func := Go.Proofs.Tryz.f77
theorem f_pool_Pool_use.fn : prog.funcs[f_pool_Pool_use]? = some f_pool_Pool_use.def := Go.Proofs.Tryz.func77
theorem f_pool_Pool_use.ok : Callable prog f_pool_Pool_use := callable_of Go.Proofs.Tryz.func77 (by kernel_rfl) rfl
def f_pool_Pool_use.live : Nat → Option (List Nat) := fun i => match i with
  | 0 => some [0, 1]
  | 1 => some []
  | _ => none
theorem f_pool_Pool_use.does {W : World} {H : HProp} {R : Ending → HProp → Prop} (a0 a1 : Value) (h : exec prog W tab 18 f_pool_Pool_use.live (codeOf Go.Proofs.Tryz.f77) (bodyQ prog W tab [] R) (argFr 0 [a0, a1]) [] H) : Does prog W f_pool_Pool_use ⟨[a0, a1]⟩ H R :=
  Does.of_exec tab_ok f_pool_Pool_use.live Go.Proofs.Tryz.func77 rfl rfl rfl (by simp) h
noncomputable abbrev f_pool_Pool_oldest.def : Func := Go.Proofs.Tryz.f78
theorem f_pool_Pool_oldest.fn : prog.funcs[f_pool_Pool_oldest]? = some f_pool_Pool_oldest.def := Go.Proofs.Tryz.func78
theorem f_pool_Pool_oldest.ok : Callable prog f_pool_Pool_oldest := callable_of Go.Proofs.Tryz.func78 (by kernel_rfl) rfl
def f_pool_Pool_oldest.live : Nat → Option (List Nat) := fun i => match i with
  | 0 => some [0]
  | 1 => some [0, 4, 5]
  | 2 => some [0, 4, 5, 12]
  | 3 => some [0, 4, 5, 12, 14]
  | 4 => some [0, 4, 5, 6, 7, 12]
  | 5 => some [0, 4, 5, 6, 12, 42]
  | 6 => some [0, 4, 5, 12]
  | 7 => some [2, 3]
  | _ => none
theorem f_pool_Pool_oldest.does {W : World} {H : HProp} {R : Ending → HProp → Prop} (a0 : Value) (h : exec prog W tab 46 f_pool_Pool_oldest.live (codeOf Go.Proofs.Tryz.f78) (bodyQ prog W tab [.tmp 2, .tmp 3] R) (argFr 0 [a0]) [] H) : Does prog W f_pool_Pool_oldest ⟨[a0]⟩ H R :=
  Does.of_exec tab_ok f_pool_Pool_oldest.live Go.Proofs.Tryz.func78 rfl rfl rfl (by simp) h
def f_pool_Pool_oldest.plan5 : List Nat := [0, 1, 2, 3, 4, 5, 6, 7, 8, 9, 10, 11, 12, 13, 14, 15, 16, 17, 18, 19, 20, 21, 22, 23, 24]
def f_pool_Pool_oldest.last5 : List Nat := [22, 23, 24]
noncomputable abbrev f_pool_Pool_leave.def : Func := Go.Proofs.Tryz.f79
theorem f_pool_Pool_leave.fn : prog.funcs[f_pool_Pool_leave]? = some f_pool_Pool_leave.def := Go.Proofs.Tryz.func79
theorem f_pool_Pool_leave.ok : Callable prog f_pool_Pool_leave := callable_of Go.Proofs.Tryz.func79 (by kernel_rfl) rfl
def f_pool_Pool_leave.live : Nat → Option (List Nat) := fun i => match i with
  | 0 => some [0, 1]
  | 1 => some [0, 1, 5]
  | 2 => some [0, 1, 5, 10]
  | 3 => some [4]
  | 4 => some []
  | 5 => some [4]
  | _ => none
theorem f_pool_Pool_leave.does {W : World} {H : HProp} {R : Ending → HProp → Prop} (a0 a1 : Value) (h : exec prog W tab 17 f_pool_Pool_leave.live (codeOf Go.Proofs.Tryz.f79) (bodyQ prog W tab [.tmp 4] R) (argFr 0 [a0, a1]) [] H) : Does prog W f_pool_Pool_leave ⟨[a0, a1]⟩ H R :=
  Does.of_exec tab_ok f_pool_Pool_leave.live Go.Proofs.Tryz.func79 rfl rfl rfl (by simp) h
noncomputable abbrev f_master_Home.def : Func := Go.Proofs.Tryz.f80
theorem f_master_Home.fn : prog.funcs[f_master_Home]? = some f_master_Home.def := Go.Proofs.Tryz.func80
theorem f_master_Home.ok : Callable prog f_master_Home := callable_of Go.Proofs.Tryz.func80 (by kernel_rfl) rfl
def f_master_Home.live : Nat → Option (List Nat) := fun i => match i with
  | 0 => some [1, 2]
  | 1 => some [1, 2, 8]
  | 2 => some [4, 5]
  | 3 => some [1, 16]
  | 4 => some [4, 5]
  | 5 => some [4, 5]
  | _ => none
theorem f_master_Home.does {W : World} {H : HProp} {R : Ending → HProp → Prop} (a0 a1 : Value) (h : exec prog W tab 20 f_master_Home.live (codeOf Go.Proofs.Tryz.f80) (bodyQ prog W tab [.tmp 4, .tmp 5] R) (argFr 0 [a0, a1]) [] H) : Does prog W f_master_Home ⟨[a0, a1]⟩ H R :=
  Does.of_exec tab_ok f_master_Home.live Go.Proofs.Tryz.func80 rfl rfl rfl (by simp) h
noncomputable abbrev f_twin_Read.def : Func := Go.Proofs.Tryz.f81
theorem f_twin_Read.fn : prog.funcs[f_twin_Read]? = some f_twin_Read.def := Go.Proofs.Tryz.func81
theorem f_twin_Read.ok : Callable prog f_twin_Read := callable_of Go.Proofs.Tryz.func81 (by kernel_rfl) rfl
def f_twin_Read.live : Nat → Option (List Nat) := fun i => match i with
  | 0 => some [0, 1, 5]
  | 1 => some [0, 1, 5]
  | 2 => some [0, 1, 5]
  | 3 => some [0, 1, 5]
  | 4 => some [4, 5]
  | _ => none
theorem f_twin_Read.does {W : World} {H : HProp} {R : Ending → HProp → Prop} (a0 a1 : Value) (h : exec prog W tab 21 f_twin_Read.live (codeOf Go.Proofs.Tryz.f81) (bodyQ prog W tab [.tmp 4, .cell 5 56] R) (argFr 0 [a0, a1]) [] H) : Does prog W f_twin_Read ⟨[a0, a1]⟩ H R :=
  Does.of_exec tab_ok f_twin_Read.live Go.Proofs.Tryz.func81 rfl rfl rfl (by simp) h
noncomputable abbrev f_pool_Pool_seen.def : Func := Go.Proofs.Tryz.f82
theorem f_pool_Pool_seen.fn : prog.funcs[f_pool_Pool_seen]? = some f_pool_Pool_seen.def := Go.Proofs.Tryz.func82
theorem f_pool_Pool_seen.ok : Callable prog f_pool_Pool_seen := callable_of Go.Proofs.Tryz.func82 (by kernel_rfl) rfl
def f_pool_Pool_seen.live : Nat → Option (List Nat) := fun i => match i with
  | 0 => some [0, 1]
  | 1 => some [0, 5]
  | 2 => some [0, 5, 9]
  | 3 => some [0, 5]
  | 4 => some [5]
  | 5 => some [4]
  | _ => none
theorem f_pool_Pool_seen.does {W : World} {H : HProp} {R : Ending → HProp → Prop} (a0 a1 : Value) (h : exec prog W tab 18 f_pool_Pool_seen.live (codeOf Go.Proofs.Tryz.f82) (bodyQ prog W tab [.tmp 4] R) (argFr 0 [a0, a1]) [] H) : Does prog W f_pool_Pool_seen ⟨[a0, a1]⟩ H R :=
  Does.of_exec tab_ok f_pool_Pool_seen.live Go.Proofs.Tryz.func82 rfl rfl rfl (by simp) h
noncomputable abbrev f_page_Decode.def : Func := Go.Proofs.Tryz.f83
theorem f_page_Decode.fn : prog.funcs[f_page_Decode]? = some f_page_Decode.def := Go.Proofs.Tryz.func83
theorem f_page_Decode.ok : Callable prog f_page_Decode := callable_of Go.Proofs.Tryz.func83 (by kernel_rfl) rfl
def f_page_Decode.live : Nat → Option (List Nat) := fun i => match i with
  | 0 => some [0, 1, 4]
  | 1 => some [0, 1, 4, 17]
  | 2 => some [4, 5]
  | 3 => some [0, 1, 4, 22]
  | 4 => some [4, 5]
  | 5 => some [0, 1, 4, 27]
  | 6 => some [4, 5]
  | 7 => some [0, 1, 4, 32]
  | 8 => some [4, 5]
  | 9 => some [0, 1, 4, 38]
  | 10 => some [4, 5]
  | 11 => some [0, 1, 4, 6]
  | 12 => some [0, 1, 4, 6, 7]
  | 13 => some [0, 1, 4, 6, 7, 9, 10]
  | 14 => some [0, 1, 4, 6, 7, 9, 10, 61]
  | 15 => some [0, 1, 4, 6, 7, 9, 10]
  | 16 => some [0, 1, 4, 6, 7, 9, 10, 11]
  | 17 => some [0, 1, 4, 6, 9, 10, 11, 66]
  | 18 => some [4, 5]
  | 19 => some [0, 1, 4, 6, 9, 10, 11, 73]
  | 20 => some [4, 5]
  | 21 => some [0, 1, 4, 6, 10, 11, 81]
  | 22 => some [4, 5]
  | 23 => some [0, 4, 6, 10, 11, 12]
  | 24 => some [0, 4, 6, 10, 11, 12, 101, 102]
  | 25 => some [0, 4, 6, 10, 11, 12, 101, 102, 103]
  | 26 => some [0, 4, 6, 10, 11, 12, 13, 101, 102]
  | 27 => some [0, 4, 6, 10, 11, 12, 13, 101, 102, 108]
  | 28 => some [0, 4, 6, 10, 11, 12, 14, 101, 102]
  | 29 => some [0, 4, 6, 10, 11, 12, 101, 102]
  | 30 => some [0, 4, 6, 10, 11, 12, 15, 101, 102]
  | 31 => some [0, 4, 6, 10, 11, 12, 101, 102]
  | 32 => some [0, 4, 6, 10, 11, 12, 101, 102]
  | 33 => some [0, 4, 6, 10, 11, 12, 16]
  | 34 => some [0, 4, 6, 10, 11, 12, 16, 168]
  | 35 => some [4, 5]
  | 36 => some [4, 12, 184]
  | 37 => some [4, 5]
  | 38 => some [4, 5]
  | _ => none
theorem f_page_Decode.does {W : World} {H : HProp} {R : Ending → HProp → Prop} (a0 a1 : Value) (h : exec prog W tab 187 f_page_Decode.live (codeOf Go.Proofs.Tryz.f83) (bodyQ prog W tab [.cell 4 104, .tmp 5] R) (argFr 0 [a0, a1]) [] H) : Does prog W f_page_Decode ⟨[a0, a1]⟩ H R :=
  Does.of_exec tab_ok f_page_Decode.live Go.Proofs.Tryz.func83 rfl rfl rfl (by simp) h
def f_page_Decode.plan29 : List Nat := [0, 1, 2, 3, 4, 5, 6, 7, 8, 9, 10, 11, 12, 13, 14]
def f_page_Decode.last29 : List Nat := [12, 13, 14]
def f_page_Decode.plan31 : List Nat := [0, 1, 2, 3, 4, 5, 6, 7, 8, 9, 10, 11, 12, 13, 14, 15, 16, 17, 18, 19, 20, 21, 22, 23, 24, 25, 26, 27]
def f_page_Decode.last31 : List Nat := [25, 26, 27]
noncomputable abbrev f_slices_Clone_S_api_Counter_api_Counter.def : Func := Go.Proofs.Tryz.f84
theorem f_slices_Clone_S_api_Counter_api_Counter.fn : prog.funcs[f_slices_Clone_S_api_Counter_api_Counter]? = some f_slices_Clone_S_api_Counter_api_Counter.def := Go.Proofs.Tryz.func84
theorem f_slices_Clone_S_api_Counter_api_Counter.ok : Callable prog f_slices_Clone_S_api_Counter_api_Counter := callable_of Go.Proofs.Tryz.func84 (by kernel_rfl) rfl
def f_slices_Clone_S_api_Counter_api_Counter.live : Nat → Option (List Nat) := fun i => match i with
  | 0 => some [0]
  | 1 => some [0, 4]
  | 2 => some [2]
  | 3 => some [2]
  | _ => none
theorem f_slices_Clone_S_api_Counter_api_Counter.does {W : World} {H : HProp} {R : Ending → HProp → Prop} (a0 : Value) (h : exec prog W tab 8 f_slices_Clone_S_api_Counter_api_Counter.live (codeOf Go.Proofs.Tryz.f84) (bodyQ prog W tab [.tmp 2] R) (argFr 0 [a0]) [] H) : Does prog W f_slices_Clone_S_api_Counter_api_Counter ⟨[a0]⟩ H R :=
  Does.of_exec tab_ok f_slices_Clone_S_api_Counter_api_Counter.live Go.Proofs.Tryz.func84 rfl rfl rfl (by simp) h
noncomputable abbrev f_slices_Clone_S_api_Group_api_Group.def : Func := Go.Proofs.Tryz.f85
theorem f_slices_Clone_S_api_Group_api_Group.fn : prog.funcs[f_slices_Clone_S_api_Group_api_Group]? = some f_slices_Clone_S_api_Group_api_Group.def := Go.Proofs.Tryz.func85
theorem f_slices_Clone_S_api_Group_api_Group.ok : Callable prog f_slices_Clone_S_api_Group_api_Group := callable_of Go.Proofs.Tryz.func85 (by kernel_rfl) rfl
def f_slices_Clone_S_api_Group_api_Group.live : Nat → Option (List Nat) := fun i => match i with
  | 0 => some [0]
  | 1 => some [0, 4]
  | 2 => some [2]
  | 3 => some [2]
  | _ => none
theorem f_slices_Clone_S_api_Group_api_Group.does {W : World} {H : HProp} {R : Ending → HProp → Prop} (a0 : Value) (h : exec prog W tab 8 f_slices_Clone_S_api_Group_api_Group.live (codeOf Go.Proofs.Tryz.f85) (bodyQ prog W tab [.tmp 2] R) (argFr 0 [a0]) [] H) : Does prog W f_slices_Clone_S_api_Group_api_Group ⟨[a0]⟩ H R :=
  Does.of_exec tab_ok f_slices_Clone_S_api_Group_api_Group.live Go.Proofs.Tryz.func85 rfl rfl rfl (by simp) h
noncomputable abbrev f_errors_as.def : Func := Go.Proofs.Tryz.f89
theorem f_errors_as.fn : prog.funcs[f_errors_as]? = some f_errors_as.def := Go.Proofs.Tryz.func89
theorem f_errors_as.ok : Callable prog f_errors_as := callable_of Go.Proofs.Tryz.func89 (by kernel_rfl) rfl
def f_errors_as.live : Nat → Option (List Nat) := fun i => match i with
  | 0 => some [0, 1, 3, 6]
  | 1 => some [0, 1, 3, 6, 19]
  | 2 => some []
  | 3 => some [8]
  | 4 => some [0, 1, 3, 6, 9, 10]
  | 5 => some [0, 1, 3, 6, 35]
  | 6 => some [8]
  | 7 => some [1, 3, 6, 36]
  | 8 => some []
  | 9 => some [8]
  | 10 => some [1, 3, 6, 36, 38, 39]
  | 11 => some [1, 3, 6, 11]
  | 12 => some [0, 1, 3, 6]
  | 13 => some [0, 1, 3, 6, 43]
  | 14 => some [8]
  | 15 => some [1, 3, 6, 36, 45, 46]
  | 16 => some [1, 3, 6, 12]
  | 17 => some [1, 3, 6, 48, 49, 50]
  | 18 => some [1, 3, 6, 48, 49, 50, 51]
  | 19 => some [1, 3, 6, 14, 48, 49, 50]
  | 20 => some [1, 3, 6, 14, 48, 49, 50, 55]
  | 21 => some [1, 3, 6, 48, 49, 50, 60]
  | 22 => some [8]
  | 23 => some [1, 3, 6, 48, 49, 50]
  | 24 => some [8]
  | _ => none
theorem f_errors_as.does {W : World} {H : HProp} {R : Ending → HProp → Prop} (a0 a1 a2 a3 : Value) (h : exec prog W tab 62 f_errors_as.live (codeOf Go.Proofs.Tryz.f89) (bodyQ prog W tab [.tmp 8] R) (argFr 0 [a0, a1, a2, a3]) [] H) : Does prog W f_errors_as ⟨[a0, a1, a2, a3]⟩ H R :=
  Does.of_exec tab_ok f_errors_as.live Go.Proofs.Tryz.func89 rfl rfl rfl (by simp) h
noncomputable abbrev f_interval_wide_minus.def : Func := Go.Proofs.Tryz.f90
theorem f_interval_wide_minus.fn : prog.funcs[f_interval_wide_minus]? = some f_interval_wide_minus.def := Go.Proofs.Tryz.func90
theorem f_interval_wide_minus.ok : Callable prog f_interval_wide_minus := callable_of Go.Proofs.Tryz.func90 (by kernel_rfl) rfl
def f_interval_wide_minus.live : Nat → Option (List Nat) := fun i => match i with
  | 0 => some [1, 2, 4]
  | 1 => some [1, 2, 4, 5, 6]
  | 2 => some [4]
  | _ => none
theorem f_interval_wide_minus.does {W : World} {H : HProp} {R : Ending → HProp → Prop} (a0 a1 : Value) (h : exec prog W tab 25 f_interval_wide_minus.live (codeOf Go.Proofs.Tryz.f90) (bodyQ prog W tab [.cell 4 113] R) (argFr 0 [a0, a1]) [] H) : Does prog W f_interval_wide_minus ⟨[a0, a1]⟩ H R :=
  Does.of_exec tab_ok f_interval_wide_minus.live Go.Proofs.Tryz.func90 rfl rfl rfl (by simp) h
noncomputable abbrev f_apply_sum_1.def : Func := Go.Proofs.Tryz.f91
theorem f_apply_sum_1.fn : prog.funcs[f_apply_sum_1]? = some f_apply_sum_1.def := Go.Proofs.Tryz.func91
theorem f_apply_sum_1.ok : Callable prog f_apply_sum_1 := callable_of Go.Proofs.Tryz.func91 (by kernel_rfl) rfl
def f_apply_sum_1.live : Nat → Option (List Nat) := fun i => match i with
  | 0 => some [0, 1]
  | 1 => some [3, 4]
  | _ => none
theorem f_apply_sum_1.does {W : World} {H : HProp} {R : Ending → HProp → Prop} (a0 a1 : Value) (h : exec prog W tab 12 f_apply_sum_1.live (codeOf Go.Proofs.Tryz.f91) (bodyQ prog W tab [.tmp 3, .tmp 4] R) (argFr 0 [a0, a1]) [] H) : Does prog W f_apply_sum_1 ⟨[a0, a1]⟩ H R :=
  Does.of_exec tab_ok f_apply_sum_1.live Go.Proofs.Tryz.func91 rfl rfl rfl (by simp) h
noncomputable abbrev f_page_Encode.def : Func := Go.Proofs.Tryz.f92
theorem f_page_Encode.fn : prog.funcs[f_page_Encode]? = some f_page_Encode.def := Go.Proofs.Tryz.func92
theorem f_page_Encode.ok : Callable prog f_page_Encode := callable_of Go.Proofs.Tryz.func92 (by kernel_rfl) rfl
def f_page_Encode.live : Nat → Option (List Nat) := fun i => match i with
  | 0 => some [1]
  | 1 => some [1, 4]
  | 2 => some [1, 4, 14]
  | 3 => some [2, 3]
  | 4 => some [1, 5]
  | 5 => some [1, 5, 19]
  | 6 => some [2, 3]
  | 7 => some [1, 5, 6]
  | 8 => some [1, 5, 6, 24]
  | 9 => some [1, 5, 6]
  | 10 => some [1, 5]
  | 11 => some [1, 5, 40, 41, 42]
  | 12 => some [1, 5, 40, 41, 42, 43]
  | 13 => some [1, 5, 7, 8, 40, 41, 42]
  | 14 => some [1, 5, 40, 41, 42]
  | 15 => some [1, 5, 40, 41, 42]
  | 16 => some [5, 73, 74, 75]
  | 17 => some [5, 73, 74, 75, 76]
  | 18 => some [5, 9, 10, 73, 74, 75]
  | 19 => some [5, 73, 74, 75]
  | 20 => some [5, 73, 74, 75]
  | 21 => some [5]
  | 22 => some [2, 3]
  | _ => none
theorem f_page_Encode.does {W : World} {H : HProp} {R : Ending → HProp → Prop} (a0 : Value) (h : exec prog W tab 102 f_page_Encode.live (codeOf Go.Proofs.Tryz.f92) (bodyQ prog W tab [.tmp 2, .tmp 3] R) (argFr 0 [a0]) [] H) : Does prog W f_page_Encode ⟨[a0]⟩ H R :=
  Does.of_exec tab_ok f_page_Encode.live Go.Proofs.Tryz.func92 rfl rfl rfl (by simp) h
def f_page_Encode.plan10 : List Nat := [0, 1, 2, 3, 4, 5, 6, 9, 10, 11, 7, 8, 12, 13]
def f_page_Encode.last10 : List Nat := [13]
noncomputable abbrev f_slices_insertionSortOrdered_int.def : Func := Go.Proofs.Tryz.f93
theorem f_slices_insertionSortOrdered_int.fn : prog.funcs[f_slices_insertionSortOrdered_int]? = some f_slices_insertionSortOrdered_int.def := Go.Proofs.Tryz.func93
theorem f_slices_insertionSortOrdered_int.ok : Callable prog f_slices_insertionSortOrdered_int := callable_of Go.Proofs.Tryz.func93 (by kernel_rfl) rfl
def f_slices_insertionSortOrdered_int.live : Nat → Option (List Nat) := fun i => match i with
  | 0 => some [0, 1, 2, 6]
  | 1 => some [0, 1, 2, 6, 12]
  | 2 => some [0, 1, 2, 6]
  | 3 => some [0, 1, 2, 6, 7]
  | 4 => some [0, 1, 2, 6, 7, 30]
  | 5 => some [0, 1, 2, 6, 7]
  | 6 => some [0, 1, 2, 6, 7]
  | _ => none
theorem f_slices_insertionSortOrdered_int.does {W : World} {H : HProp} {R : Ending → HProp → Prop} (a0 a1 a2 : Value) (h : exec prog W tab 49 f_slices_insertionSortOrdered_int.live (codeOf Go.Proofs.Tryz.f93) (bodyQ prog W tab [] R) (argFr 0 [a0, a1, a2]) [] H) : Does prog W f_slices_insertionSortOrdered_int ⟨[a0, a1, a2]⟩ H R :=
  Does.of_exec tab_ok f_slices_insertionSortOrdered_int.live Go.Proofs.Tryz.func93 rfl rfl rfl (by simp) h
def f_slices_insertionSortOrdered_int.plan4 : List Nat := [0, 1, 2, 3, 4, 5, 6, 7, 8, 9, 10, 11, 12, 13, 14]
def f_slices_insertionSortOrdered_int.last4 : List Nat := [13, 14]
def f_slices_insertionSortOrdered_int.plan6 : List Nat := [0, 1, 2, 3, 4, 5, 6, 7, 8, 9, 10, 11, 12, 13, 14, 15, 16, 17]
def f_slices_insertionSortOrdered_int.last6 : List Nat := [16, 17]
noncomputable abbrev f_slices_heapSortOrdered_int.def : Func := Go.Proofs.Tryz.f94
theorem f_slices_heapSortOrdered_int.fn : prog.funcs[f_slices_heapSortOrdered_int]? = some f_slices_heapSortOrdered_int.def := Go.Proofs.Tryz.func94
theorem f_slices_heapSortOrdered_int.ok : Callable prog f_slices_heapSortOrdered_int := callable_of Go.Proofs.Tryz.func94 (by kernel_rfl) rfl
def f_slices_heapSortOrdered_int.live : Nat → Option (List Nat) := fun i => match i with
  | 0 => some [0, 1, 2, 6]
  | 1 => some [0, 1, 2, 6, 7]
  | 2 => some [0, 6, 7, 8]
  | 3 => some [0, 6, 7, 8, 9]
  | 4 => some [0, 6, 7, 8, 9, 19]
  | 5 => some [0, 6, 7, 8, 9]
  | 6 => some [0, 6, 7, 8, 9]
  | 7 => some [0, 6, 7, 10]
  | 8 => some [0, 6, 7, 10, 30]
  | 9 => some [0, 6, 7, 10]
  | 10 => some [0, 6, 7, 10]
  | 11 => some [0, 6, 7, 10]
  | _ => none
theorem f_slices_heapSortOrdered_int.does {W : World} {H : HProp} {R : Ending → HProp → Prop} (a0 a1 a2 : Value) (h : exec prog W tab 56 f_slices_heapSortOrdered_int.live (codeOf Go.Proofs.Tryz.f94) (bodyQ prog W tab [] R) (argFr 0 [a0, a1, a2]) [] H) : Does prog W f_slices_heapSortOrdered_int ⟨[a0, a1, a2]⟩ H R :=
  Does.of_exec tab_ok f_slices_heapSortOrdered_int.live Go.Proofs.Tryz.func94 rfl rfl rfl (by simp) h
def f_slices_heapSortOrdered_int.plan10 : List Nat := [0, 1, 2, 3, 4, 5, 6, 7, 8, 9, 10, 11, 12, 13, 14, 15, 16, 17, 18, 19]
def f_slices_heapSortOrdered_int.last10 : List Nat := [18, 19]
noncomputable abbrev f_slices_breakPatternsOrdered_int.def : Func := Go.Proofs.Tryz.f95
theorem f_slices_breakPatternsOrdered_int.fn : prog.funcs[f_slices_breakPatternsOrdered_int]? = some f_slices_breakPatternsOrdered_int.def := Go.Proofs.Tryz.func95
theorem f_slices_breakPatternsOrdered_int.ok : Callable prog f_slices_breakPatternsOrdered_int := callable_of Go.Proofs.Tryz.func95 (by kernel_rfl) rfl
def f_slices_breakPatternsOrdered_int.live : Nat → Option (List Nat) := fun i => match i with
  | 0 => some [0, 1, 6]
  | 1 => some [0, 1, 6, 15]
  | 2 => some [0, 1, 6, 7]
  | 3 => some [0, 1, 6, 7, 8]
  | 4 => some [0, 1, 6, 7, 8, 9]
  | 5 => some [0, 1, 6, 7, 8, 9, 33]
  | 6 => some [0, 1, 6, 7, 8, 9]
  | 7 => some [0, 1, 6, 7, 8, 9, 10]
  | 8 => some [0, 1, 6, 7, 8, 9, 10, 43]
  | 9 => some [0, 1, 6, 7, 8, 9, 10]
  | 10 => some [0, 1, 6, 7, 8, 9]
  | _ => none
theorem f_slices_breakPatternsOrdered_int.does {W : World} {H : HProp} {R : Ending → HProp → Prop} (a0 a1 a2 : Value) (h : exec prog W tab 65 f_slices_breakPatternsOrdered_int.live (codeOf Go.Proofs.Tryz.f95) (bodyQ prog W tab [] R) (argFr 0 [a0, a1, a2]) [] H) : Does prog W f_slices_breakPatternsOrdered_int ⟨[a0, a1, a2]⟩ H R :=
  Does.of_exec tab_ok f_slices_breakPatternsOrdered_int.live Go.Proofs.Tryz.func95 rfl rfl rfl (by simp) h
def f_slices_breakPatternsOrdered_int.plan10 : List Nat := [0, 1, 2, 3, 4, 5, 6, 7, 8, 9, 10, 11, 12, 13, 14, 15, 16, 17, 18, 19]
def f_slices_breakPatternsOrdered_int.last10 : List Nat := [18, 19]
noncomputable abbrev f_slices_choosePivotOrdered_int.def : Func := Go.Proofs.Tryz.f96
theorem f_slices_choosePivotOrdered_int.fn : prog.funcs[f_slices_choosePivotOrdered_int]? = some f_slices_choosePivotOrdered_int.def := Go.Proofs.Tryz.func96
theorem f_slices_choosePivotOrdered_int.ok : Callable prog f_slices_choosePivotOrdered_int := callable_of Go.Proofs.Tryz.func96 (by kernel_rfl) rfl
def f_slices_choosePivotOrdered_int.live : Nat → Option (List Nat) := fun i => match i with
  | 0 => some [0, 1, 2]
  | 1 => some [0, 1, 8]
  | 2 => some [0, 1, 8, 9]
  | 3 => some [0, 1, 8, 9, 10]
  | 4 => some [0, 1, 8, 9, 10, 11]
  | 5 => some [0, 8, 9, 10, 11, 12]
  | 6 => some [0, 8, 9, 10, 11, 12, 32]
  | 7 => some [0, 9, 10, 11, 12, 34]
  | 8 => some [0, 9, 10, 11, 12]
  | 9 => some [0, 9, 10, 11, 12]
  | 10 => some [0, 9, 10, 11, 12]
  | 11 => some [9, 11]
  | 12 => some [11, 49]
  | 13 => some [6, 7]
  | 14 => some [11, 49, 51]
  | 15 => some [6, 7]
  | 16 => some [11, 54]
  | 17 => some [6, 7]
  | _ => none
theorem f_slices_choosePivotOrdered_int.does {W : World} {H : HProp} {R : Ending → HProp → Prop} (a0 a1 a2 : Value) (h : exec prog W tab 57 f_slices_choosePivotOrdered_int.live (codeOf Go.Proofs.Tryz.f96) (bodyQ prog W tab [.tmp 6, .tmp 7] R) (argFr 0 [a0, a1, a2]) [] H) : Does prog W f_slices_choosePivotOrdered_int ⟨[a0, a1, a2]⟩ H R :=
  Does.of_exec tab_ok f_slices_choosePivotOrdered_int.live Go.Proofs.Tryz.func96 rfl rfl rfl (by simp) h
noncomputable abbrev f_slices_reverseRangeOrdered_int.def : Func := Go.Proofs.Tryz.f97
theorem f_slices_reverseRangeOrdered_int.fn : prog.funcs[f_slices_reverseRangeOrdered_int]? = some f_slices_reverseRangeOrdered_int.def := Go.Proofs.Tryz.func97
theorem f_slices_reverseRangeOrdered_int.ok : Callable prog f_slices_reverseRangeOrdered_int := callable_of Go.Proofs.Tryz.func97 (by kernel_rfl) rfl
def f_slices_reverseRangeOrdered_int.live : Nat → Option (List Nat) := fun i => match i with
  | 0 => some [0, 2, 6]
  | 1 => some [0, 6, 7]
  | 2 => some [0, 6, 7, 13]
  | 3 => some [0, 6, 7]
  | 4 => some [0, 6, 7]
  | 5 => some [0, 6, 7]
  | _ => none
theorem f_slices_reverseRangeOrdered_int.does {W : World} {H : HProp} {R : Ending → HProp → Prop} (a0 a1 a2 : Value) (h : exec prog W tab 32 f_slices_reverseRangeOrdered_int.live (codeOf Go.Proofs.Tryz.f97) (bodyQ prog W tab [] R) (argFr 0 [a0, a1, a2]) [] H) : Does prog W f_slices_reverseRangeOrdered_int ⟨[a0, a1, a2]⟩ H R :=
  Does.of_exec tab_ok f_slices_reverseRangeOrdered_int.live Go.Proofs.Tryz.func97 rfl rfl rfl (by simp) h
def f_slices_reverseRangeOrdered_int.plan3 : List Nat := [0, 1, 2, 3, 4, 5, 6, 7, 8, 9, 10, 11, 12, 13, 14, 15]
def f_slices_reverseRangeOrdered_int.last3 : List Nat := [14, 15]
noncomputable abbrev f_slices_partialInsertionSortOrdered_int.def : Func := Go.Proofs.Tryz.f98
theorem f_slices_partialInsertionSortOrdered_int.fn : prog.funcs[f_slices_partialInsertionSortOrdered_int]? = some f_slices_partialInsertionSortOrdered_int.def := Go.Proofs.Tryz.func98
theorem f_slices_partialInsertionSortOrdered_int.ok : Callable prog f_slices_partialInsertionSortOrdered_int := callable_of Go.Proofs.Tryz.func98 (by kernel_rfl) rfl
def f_slices_partialInsertionSortOrdered_int.live : Nat → Option (List Nat) := fun i => match i with
  | 0 => some [0, 1, 2]
  | 1 => some [0, 1, 2, 7]
  | 2 => some [0, 1, 2, 7, 8]
  | 3 => some [0, 1, 2, 7, 8, 14]
  | 4 => some [0, 1, 2, 7, 8]
  | 5 => some [0, 1, 2, 7, 8, 32]
  | 6 => some [0, 1, 2, 7, 8]
  | 7 => some [0, 1, 2, 7, 8, 37]
  | 8 => some [6]
  | 9 => some [0, 1, 2, 7, 8, 41]
  | 10 => some [6]
  | 11 => some [0, 1, 2, 7, 8]
  | 12 => some [0, 1, 2, 7, 8, 61]
  | 13 => some [0, 1, 2, 7, 8, 9]
  | 14 => some [0, 1, 2, 7, 8, 9, 65]
  | 15 => some [0, 1, 2, 7, 8, 9]
  | 16 => some [0, 1, 2, 7, 8, 9, 78]
  | 17 => some [0, 1, 2, 7, 8, 9]
  | 18 => some [0, 1, 2, 7, 8, 98]
  | 19 => some [0, 1, 2, 7, 8, 10]
  | 20 => some [0, 1, 2, 7, 8, 10, 103]
  | 21 => some [0, 1, 2, 7, 8, 10]
  | 22 => some [0, 1, 2, 7, 8, 10, 116]
  | 23 => some [0, 1, 2, 7, 8, 10]
  | 24 => some [6]
  | _ => none
theorem f_slices_partialInsertionSortOrdered_int.does {W : World} {H : HProp} {R : Ending → HProp → Prop} (a0 a1 a2 : Value) (h : exec prog W tab 133 f_slices_partialInsertionSortOrdered_int.live (codeOf Go.Proofs.Tryz.f98) (bodyQ prog W tab [.tmp 6] R) (argFr 0 [a0, a1, a2]) [] H) : Does prog W f_slices_partialInsertionSortOrdered_int ⟨[a0, a1, a2]⟩ H R :=
  Does.of_exec tab_ok f_slices_partialInsertionSortOrdered_int.live Go.Proofs.Tryz.func98 rfl rfl rfl (by simp) h
def f_slices_partialInsertionSortOrdered_int.plan5 : List Nat := [0, 1, 2, 3, 4, 5, 6, 7, 8, 9, 10, 11, 12, 13, 14, 15]
def f_slices_partialInsertionSortOrdered_int.last5 : List Nat := [13, 14, 15]
def f_slices_partialInsertionSortOrdered_int.plan11 : List Nat := [0, 1, 2, 3, 4, 5, 6, 7, 8, 9, 10, 11, 12, 13, 14, 15, 16, 17]
def f_slices_partialInsertionSortOrdered_int.last11 : List Nat := [16, 17]
def f_slices_partialInsertionSortOrdered_int.plan16 : List Nat := [0, 1, 2, 3, 4, 5, 6, 7, 8, 9, 10]
def f_slices_partialInsertionSortOrdered_int.last16 : List Nat := [9, 10]
def f_slices_partialInsertionSortOrdered_int.plan17 : List Nat := [0, 1, 2, 3, 4, 5, 6, 7, 8, 9, 10, 11, 12, 13, 14, 15, 16, 17]
def f_slices_partialInsertionSortOrdered_int.last17 : List Nat := [16, 17]
def f_slices_partialInsertionSortOrdered_int.plan22 : List Nat := [0, 1, 2, 3, 4, 5, 6, 7, 8, 9, 10]
def f_slices_partialInsertionSortOrdered_int.last22 : List Nat := [9, 10]
def f_slices_partialInsertionSortOrdered_int.plan23 : List Nat := [0, 1, 2, 3, 4, 5, 6, 7, 8, 9, 10, 11, 12, 13, 14, 15, 16, 17]
def f_slices_partialInsertionSortOrdered_int.last23 : List Nat := [16, 17]
noncomputable abbrev f_cmp_Less_int.def : Func := Go.Proofs.Tryz.f99
theorem f_cmp_Less_int.fn : prog.funcs[f_cmp_Less_int]? = some f_cmp_Less_int.def := Go.Proofs.Tryz.func99
theorem f_cmp_Less_int.ok : Callable prog f_cmp_Less_int := callable_of Go.Proofs.Tryz.func99 (by kernel_rfl) rfl
def f_cmp_Less_int.live : Nat → Option (List Nat) := fun i => match i with
  | 0 => some [0, 1]
  | 1 => some [4]
  | _ => none
theorem f_cmp_Less_int.does {W : World} {H : HProp} {R : Ending → HProp → Prop} (a0 a1 : Value) (h : exec prog W tab 17 f_cmp_Less_int.live (codeOf Go.Proofs.Tryz.f99) (bodyQ prog W tab [.tmp 4] R) (argFr 0 [a0, a1]) [] H) : Does prog W f_cmp_Less_int ⟨[a0, a1]⟩ H R :=
  Does.of_exec tab_ok f_cmp_Less_int.live Go.Proofs.Tryz.func99 rfl rfl rfl (by simp) h
noncomputable abbrev f_slices_partitionEqualOrdered_int.def : Func := Go.Proofs.Tryz.f100
theorem f_slices_partitionEqualOrdered_int.fn : prog.funcs[f_slices_partitionEqualOrdered_int]? = some f_slices_partitionEqualOrdered_int.def := Go.Proofs.Tryz.func100
theorem f_slices_partitionEqualOrdered_int.ok : Callable prog f_slices_partitionEqualOrdered_int := callable_of Go.Proofs.Tryz.func100 (by kernel_rfl) rfl
def f_slices_partitionEqualOrdered_int.live : Nat → Option (List Nat) := fun i => match i with
  | 0 => some [0, 1, 2, 3]
  | 1 => some [0, 1, 2]
  | 2 => some [0, 1, 9, 10]
  | 3 => some [0, 1, 9, 10, 43]
  | 4 => some [0, 1, 9, 10]
  | 5 => some [0, 1, 9, 10, 59]
  | 6 => some [0, 1, 9, 10]
  | 7 => some [0, 1, 9, 10, 64]
  | 8 => some [0, 1, 9, 10]
  | 9 => some [0, 1, 9, 10]
  | 10 => some [0, 1, 9, 10]
  | 11 => some [8]
  | _ => none
theorem f_slices_partitionEqualOrdered_int.does {W : World} {H : HProp} {R : Ending → HProp → Prop} (a0 a1 a2 a3 : Value) (h : exec prog W tab 84 f_slices_partitionEqualOrdered_int.live (codeOf Go.Proofs.Tryz.f100) (bodyQ prog W tab [.tmp 8] R) (argFr 0 [a0, a1, a2, a3]) [] H) : Does prog W f_slices_partitionEqualOrdered_int ⟨[a0, a1, a2, a3]⟩ H R :=
  Does.of_exec tab_ok f_slices_partitionEqualOrdered_int.live Go.Proofs.Tryz.func100 rfl rfl rfl (by simp) h
def f_slices_partitionEqualOrdered_int.plan1 : List Nat := [0, 1, 2, 3, 4, 5, 6, 7, 8, 9, 10, 11, 12, 13, 14, 15]
def f_slices_partitionEqualOrdered_int.last1 : List Nat := [14, 15]
def f_slices_partitionEqualOrdered_int.plan3 : List Nat := [0, 1, 2, 3, 4, 5, 6, 7, 8, 9, 10, 11, 12, 13, 14]
def f_slices_partitionEqualOrdered_int.last3 : List Nat := [12, 13, 14]
def f_slices_partitionEqualOrdered_int.plan5 : List Nat := [0, 1, 2, 3, 4, 5, 6, 7, 8, 9, 10, 11, 12, 13]
def f_slices_partitionEqualOrdered_int.last5 : List Nat := [12, 13]
def f_slices_partitionEqualOrdered_int.plan8 : List Nat := [0, 1, 2, 3, 4, 5, 6, 7, 8, 9, 10, 11, 12, 13, 14, 15]
def f_slices_partitionEqualOrdered_int.last8 : List Nat := [14, 15]
noncomputable abbrev f_slices_partitionOrdered_int.def : Func := Go.Proofs.Tryz.f101
theorem f_slices_partitionOrdered_int.fn : prog.funcs[f_slices_partitionOrdered_int]? = some f_slices_partitionOrdered_int.def := Go.Proofs.Tryz.func101
theorem f_slices_partitionOrdered_int.ok : Callable prog f_slices_partitionOrdered_int := callable_of Go.Proofs.Tryz.func101 (by kernel_rfl) rfl
def f_slices_partitionOrdered_int.live : Nat → Option (List Nat) := fun i => match i with
  | 0 => some [0, 1, 2, 3]
  | 1 => some [0, 1, 2]
  | 2 => some [0, 1, 10, 11]
  | 3 => some [0, 1, 10, 11, 43]
  | 4 => some [0, 1, 10, 11]
  | 5 => some [0, 1, 10, 11, 60]
  | 6 => some [0, 1, 10, 11]
  | 7 => some [0, 1, 10, 11, 65]
  | 8 => some [11]
  | 9 => some [8, 9]
  | 10 => some [0, 1, 10, 11]
  | 11 => some [0, 1, 10, 11]
  | 12 => some [0, 1, 10, 11]
  | 13 => some [0, 1, 10, 11, 112]
  | 14 => some [0, 1, 10, 11]
  | 15 => some [0, 1, 10, 11, 129]
  | 16 => some [0, 1, 10, 11]
  | 17 => some [0, 1, 10, 11, 134]
  | 18 => some [0, 1, 10, 11]
  | 19 => some [0, 1, 10, 11]
  | 20 => some [0, 1, 10, 11]
  | 21 => some [11]
  | 22 => some [8, 9]
  | _ => none
theorem f_slices_partitionOrdered_int.does {W : World} {H : HProp} {R : Ending → HProp → Prop} (a0 a1 a2 a3 : Value) (h : exec prog W tab 168 f_slices_partitionOrdered_int.live (codeOf Go.Proofs.Tryz.f101) (bodyQ prog W tab [.tmp 8, .tmp 9] R) (argFr 0 [a0, a1, a2, a3]) [] H) : Does prog W f_slices_partitionOrdered_int ⟨[a0, a1, a2, a3]⟩ H R :=
  Does.of_exec tab_ok f_slices_partitionOrdered_int.live Go.Proofs.Tryz.func101 rfl rfl rfl (by simp) h
def f_slices_partitionOrdered_int.plan1 : List Nat := [0, 1, 2, 3, 4, 5, 6, 7, 8, 9, 10, 11, 12, 13, 14, 15]
def f_slices_partitionOrdered_int.last1 : List Nat := [14, 15]
def f_slices_partitionOrdered_int.plan3 : List Nat := [0, 1, 2, 3, 4, 5, 6, 7, 8, 9, 10, 11, 12, 13]
def f_slices_partitionOrdered_int.last3 : List Nat := [12, 13]
def f_slices_partitionOrdered_int.plan5 : List Nat := [0, 1, 2, 3, 4, 5, 6, 7, 8, 9, 10, 11, 12, 13, 14]
def f_slices_partitionOrdered_int.last5 : List Nat := [12, 13, 14]
def f_slices_partitionOrdered_int.plan8 : List Nat := [0, 1, 2, 3, 4, 5, 6, 7, 8, 9, 10, 11, 12, 13, 14, 15]
def f_slices_partitionOrdered_int.last8 : List Nat := [14, 15]
def f_slices_partitionOrdered_int.plan10 : List Nat := [0, 1, 2, 3, 4, 5, 6, 7, 8, 9, 10, 11, 12, 13, 14, 15]
def f_slices_partitionOrdered_int.last10 : List Nat := [14, 15]
def f_slices_partitionOrdered_int.plan13 : List Nat := [0, 1, 2, 3, 4, 5, 6, 7, 8, 9, 10, 11, 12, 13]
def f_slices_partitionOrdered_int.last13 : List Nat := [12, 13]
def f_slices_partitionOrdered_int.plan15 : List Nat := [0, 1, 2, 3, 4, 5, 6, 7, 8, 9, 10, 11, 12, 13, 14]
def f_slices_partitionOrdered_int.last15 : List Nat := [12, 13, 14]
def f_slices_partitionOrdered_int.plan18 : List Nat := [0, 1, 2, 3, 4, 5, 6, 7, 8, 9, 10, 11, 12, 13, 14, 15]
def f_slices_partitionOrdered_int.last18 : List Nat := [14, 15]
def f_slices_partitionOrdered_int.plan21 : List Nat := [0, 1, 2, 3, 4, 5, 6, 7, 8, 9, 10, 11, 12, 13, 14, 15]
def f_slices_partitionOrdered_int.last21 : List Nat := [14, 15]
noncomputable abbrev f_math_bits_Len32.def : Func := Go.Proofs.Tryz.f102
theorem f_math_bits_Len32.fn : prog.funcs[f_math_bits_Len32]? = some f_math_bits_Len32.def := Go.Proofs.Tryz.func102
theorem f_math_bits_Len32.ok : Callable prog f_math_bits_Len32 := callable_of Go.Proofs.Tryz.func102 (by kernel_rfl) rfl
def f_math_bits_Len32.live : Nat → Option (List Nat) := fun i => match i with
  | 0 => some [0, 2]
  | 1 => some [0, 2, 4]
  | 2 => some [0]
  | 3 => some [0, 2]
  | 4 => some [0, 2, 8]
  | 5 => some [0, 2]
  | 6 => some [0, 2]
  | 7 => some [2]
  | _ => none
theorem f_math_bits_Len32.does {W : World} {H : HProp} {R : Ending → HProp → Prop} (a0 : Value) (h : exec prog W tab 19 f_math_bits_Len32.live (codeOf Go.Proofs.Tryz.f102) (bodyQ prog W tab [.tmp 2] R) (argFr 0 [a0]) [] H) : Does prog W f_math_bits_Len32 ⟨[a0]⟩ H R :=
  Does.of_exec tab_ok f_math_bits_Len32.live Go.Proofs.Tryz.func102 rfl rfl rfl (by simp) h
noncomputable abbrev f_math_bits_Len64.def : Func := Go.Proofs.Tryz.f103
theorem f_math_bits_Len64.fn : prog.funcs[f_math_bits_Len64]? = some f_math_bits_Len64.def := Go.Proofs.Tryz.func103
theorem f_math_bits_Len64.ok : Callable prog f_math_bits_Len64 := callable_of Go.Proofs.Tryz.func103 (by kernel_rfl) rfl
def f_math_bits_Len64.live : Nat → Option (List Nat) := fun i => match i with
  | 0 => some [0, 2]
  | 1 => some [0, 2, 4]
  | 2 => some [0]
  | 3 => some [0, 2]
  | 4 => some [0, 2, 8]
  | 5 => some [0, 2]
  | 6 => some [0, 2]
  | 7 => some [0, 2, 14]
  | 8 => some [0, 2]
  | 9 => some [0, 2]
  | 10 => some [2]
  | _ => none
theorem f_math_bits_Len64.does {W : World} {H : HProp} {R : Ending → HProp → Prop} (a0 : Value) (h : exec prog W tab 25 f_math_bits_Len64.live (codeOf Go.Proofs.Tryz.f103) (bodyQ prog W tab [.tmp 2] R) (argFr 0 [a0]) [] H) : Does prog W f_math_bits_Len64 ⟨[a0]⟩ H R :=
  Does.of_exec tab_ok f_math_bits_Len64.live Go.Proofs.Tryz.func103 rfl rfl rfl (by simp) h
noncomputable abbrev f_slices_Clone_S_api_Live_api_Live.def : Func := Go.Proofs.Tryz.f104
theorem f_slices_Clone_S_api_Live_api_Live.fn : prog.funcs[f_slices_Clone_S_api_Live_api_Live]? = some f_slices_Clone_S_api_Live_api_Live.def := Go.Proofs.Tryz.func104
theorem f_slices_Clone_S_api_Live_api_Live.ok : Callable prog f_slices_Clone_S_api_Live_api_Live := callable_of Go.Proofs.Tryz.func104 (by kernel_rfl) rfl
def f_slices_Clone_S_api_Live_api_Live.live : Nat → Option (List Nat) := fun i => match i with
  | 0 => some [0]
  | 1 => some [0, 4]
  | 2 => some [2]
  | 3 => some [2]
  | _ => none
theorem f_slices_Clone_S_api_Live_api_Live.does {W : World} {H : HProp} {R : Ending → HProp → Prop} (a0 : Value) (h : exec prog W tab 8 f_slices_Clone_S_api_Live_api_Live.live (codeOf Go.Proofs.Tryz.f104) (bodyQ prog W tab [.tmp 2] R) (argFr 0 [a0]) [] H) : Does prog W f_slices_Clone_S_api_Live_api_Live ⟨[a0]⟩ H R :=
  Does.of_exec tab_ok f_slices_Clone_S_api_Live_api_Live.live Go.Proofs.Tryz.func104 rfl rfl rfl (by simp) h
noncomputable abbrev f_slices_Clone_S_api_Dirty_api_Dirty.def : Func := Go.Proofs.Tryz.f105
theorem f_slices_Clone_S_api_Dirty_api_Dirty.fn : prog.funcs[f_slices_Clone_S_api_Dirty_api_Dirty]? = some f_slices_Clone_S_api_Dirty_api_Dirty.def := Go.Proofs.Tryz.func105
theorem f_slices_Clone_S_api_Dirty_api_Dirty.ok : Callable prog f_slices_Clone_S_api_Dirty_api_Dirty := callable_of Go.Proofs.Tryz.func105 (by kernel_rfl) rfl
def f_slices_Clone_S_api_Dirty_api_Dirty.live : Nat → Option (List Nat) := fun i => match i with
  | 0 => some [0]
  | 1 => some [0, 4]
  | 2 => some [2]
  | 3 => some [2]
  | _ => none
theorem f_slices_Clone_S_api_Dirty_api_Dirty.does {W : World} {H : HProp} {R : Ending → HProp → Prop} (a0 : Value) (h : exec prog W tab 8 f_slices_Clone_S_api_Dirty_api_Dirty.live (codeOf Go.Proofs.Tryz.f105) (bodyQ prog W tab [.tmp 2] R) (argFr 0 [a0]) [] H) : Does prog W f_slices_Clone_S_api_Dirty_api_Dirty ⟨[a0]⟩ H R :=
  Does.of_exec tab_ok f_slices_Clone_S_api_Dirty_api_Dirty.live Go.Proofs.Tryz.func105 rfl rfl rfl (by simp) h
noncomputable abbrev f_record_in.def : Func := Go.Proofs.Tryz.f106
theorem f_record_in.fn : prog.funcs[f_record_in]? = some f_record_in.def := Go.Proofs.Tryz.func106
theorem f_record_in.ok : Callable prog f_record_in := callable_of Go.Proofs.Tryz.func106 (by kernel_rfl) rfl
def f_record_in.live : Nat → Option (List Nat) := fun i => match i with
  | 0 => some [0, 1, 2]
  | 1 => some [6]
  | _ => none
theorem f_record_in.does {W : World} {H : HProp} {R : Ending → HProp → Prop} (a0 a1 a2 : Value) (h : exec prog W tab 15 f_record_in.live (codeOf Go.Proofs.Tryz.f106) (bodyQ prog W tab [.tmp 6] R) (argFr 0 [a0, a1, a2]) [] H) : Does prog W f_record_in ⟨[a0, a1, a2]⟩ H R :=
  Does.of_exec tab_ok f_record_in.live Go.Proofs.Tryz.func106 rfl rfl rfl (by simp) h
noncomputable abbrev f_record_slots.def : Func := Go.Proofs.Tryz.f107
theorem f_record_slots.fn : prog.funcs[f_record_slots]? = some f_record_slots.def := Go.Proofs.Tryz.func107
theorem f_record_slots.ok : Callable prog f_record_slots := callable_of Go.Proofs.Tryz.func107 (by kernel_rfl) rfl
def f_record_slots.live : Nat → Option (List Nat) := fun i => match i with
  | 0 => some [2, 3]
  | 1 => some [4]
  | _ => none
theorem f_record_slots.does {W : World} {H : HProp} {R : Ending → HProp → Prop} (a0 a1 : Value) (h : exec prog W tab 30 f_record_slots.live (codeOf Go.Proofs.Tryz.f107) (bodyQ prog W tab [.tmp 4] R) (argFr 0 [a0, a1]) [] H) : Does prog W f_record_slots ⟨[a0, a1]⟩ H R :=
  Does.of_exec tab_ok f_record_slots.live Go.Proofs.Tryz.func107 rfl rfl rfl (by simp) h
noncomputable abbrev f_record_checkpoint.def : Func := Go.Proofs.Tryz.f108
theorem f_record_checkpoint.fn : prog.funcs[f_record_checkpoint]? = some f_record_checkpoint.def := Go.Proofs.Tryz.func108
theorem f_record_checkpoint.ok : Callable prog f_record_checkpoint := callable_of Go.Proofs.Tryz.func108 (by kernel_rfl) rfl
def f_record_checkpoint.live : Nat → Option (List Nat) := fun i => match i with
  | 0 => some [1, 2]
  | 1 => some [1, 2, 26]
  | 2 => some [4]
  | 3 => some [1, 2, 5]
  | 4 => some [1, 2, 5, 28, 29, 30]
  | 5 => some [1, 2, 5, 28, 29, 30, 31]
  | 6 => some [1, 2, 5, 7, 28, 29, 30]
  | 7 => some [1, 2, 7, 28, 29, 30, 65]
  | 8 => some [4]
  | 9 => some [1, 2, 5, 28, 29, 30]
  | 10 => some [1, 2, 5, 28, 29, 30]
  | 11 => some [1, 2, 8]
  | 12 => some [1, 8, 70, 71, 72]
  | 13 => some [1, 8, 70, 71, 72, 73]
  | 14 => some [1, 8, 10, 70, 71, 72]
  | 15 => some [1, 10, 70, 71, 72, 97]
  | 16 => some [4]
  | 17 => some [1, 8, 70, 71, 72]
  | 18 => some [1, 8, 70, 71, 72]
  | 19 => some [4]
  | _ => none
theorem f_record_checkpoint.does {W : World} {H : HProp} {R : Ending → HProp → Prop} (a0 a1 : Value) (h : exec prog W tab 101 f_record_checkpoint.live (codeOf Go.Proofs.Tryz.f108) (bodyQ prog W tab [.tmp 4] R) (argFr 0 [a0, a1]) [] H) : Does prog W f_record_checkpoint ⟨[a0, a1]⟩ H R :=
  Does.of_exec tab_ok f_record_checkpoint.live Go.Proofs.Tryz.func108 rfl rfl rfl (by simp) h
noncomputable abbrev f_record_below.def : Func := Go.Proofs.Tryz.f109
theorem f_record_below.fn : prog.funcs[f_record_below]? = some f_record_below.def := Go.Proofs.Tryz.func109
theorem f_record_below.ok : Callable prog f_record_below := callable_of Go.Proofs.Tryz.func109 (by kernel_rfl) rfl
def f_record_below.live : Nat → Option (List Nat) := fun i => match i with
  | 0 => some [0, 1]
  | 1 => some [4]
  | _ => none
theorem f_record_below.does {W : World} {H : HProp} {R : Ending → HProp → Prop} (a0 a1 : Value) (h : exec prog W tab 12 f_record_below.live (codeOf Go.Proofs.Tryz.f109) (bodyQ prog W tab [.tmp 4] R) (argFr 0 [a0, a1]) [] H) : Does prog W f_record_below ⟨[a0, a1]⟩ H R :=
  Does.of_exec tab_ok f_record_below.live Go.Proofs.Tryz.func109 rfl rfl rfl (by simp) h
noncomputable abbrev f_record_blank.def : Func := Go.Proofs.Tryz.f110
theorem f_record_blank.fn : prog.funcs[f_record_blank]? = some f_record_blank.def := Go.Proofs.Tryz.func110
theorem f_record_blank.ok : Callable prog f_record_blank := callable_of Go.Proofs.Tryz.func110 (by kernel_rfl) rfl
def f_record_blank.live : Nat → Option (List Nat) := fun i => match i with
  | 0 => some [1]
  | 1 => some [2]
  | _ => none
theorem f_record_blank.does {W : World} {H : HProp} {R : Ending → HProp → Prop} (a0 : Value) (h : exec prog W tab 54 f_record_blank.live (codeOf Go.Proofs.Tryz.f110) (bodyQ prog W tab [.tmp 2] R) (argFr 0 [a0]) [] H) : Does prog W f_record_blank ⟨[a0]⟩ H R :=
  Does.of_exec tab_ok f_record_blank.live Go.Proofs.Tryz.func110 rfl rfl rfl (by simp) h
noncomputable abbrev f_field_NewWriter.def : Func := Go.Proofs.Tryz.f111
theorem f_field_NewWriter.fn : prog.funcs[f_field_NewWriter]? = some f_field_NewWriter.def := Go.Proofs.Tryz.func111
theorem f_field_NewWriter.ok : Callable prog f_field_NewWriter := callable_of Go.Proofs.Tryz.func111 (by kernel_rfl) rfl
def f_field_NewWriter.live : Nat → Option (List Nat) := fun i => match i with
  | 0 => some []
  | 1 => some [0]
  | _ => none
theorem f_field_NewWriter.does {W : World} {H : HProp} {R : Ending → HProp → Prop} (h : exec prog W tab 3 f_field_NewWriter.live (codeOf Go.Proofs.Tryz.f111) (bodyQ prog W tab [.tmp 0] R) (argFr 0 []) [] H) : Does prog W f_field_NewWriter ⟨[]⟩ H R :=
  Does.of_exec tab_ok f_field_NewWriter.live Go.Proofs.Tryz.func111 rfl rfl rfl (by simp) h
noncomputable abbrev f_field_Writer_U.def : Func := Go.Proofs.Tryz.f112
theorem f_field_Writer_U.fn : prog.funcs[f_field_Writer_U]? = some f_field_Writer_U.def := Go.Proofs.Tryz.func112
theorem f_field_Writer_U.ok : Callable prog f_field_Writer_U := callable_of Go.Proofs.Tryz.func112 (by kernel_rfl) rfl
def f_field_Writer_U.live : Nat → Option (List Nat) := fun i => match i with
  | 0 => some [0, 1, 5]
  | 1 => some [0, 1]
  | 2 => some [0, 1]
  | 3 => some []
  | _ => none
theorem f_field_Writer_U.does {W : World} {H : HProp} {R : Ending → HProp → Prop} (a0 a1 : Value) (h : exec prog W tab 31 f_field_Writer_U.live (codeOf Go.Proofs.Tryz.f112) (bodyQ prog W tab [] R) (argFr 0 [a0, a1]) [] H) : Does prog W f_field_Writer_U ⟨[a0, a1]⟩ H R :=
  Does.of_exec tab_ok f_field_Writer_U.live Go.Proofs.Tryz.func112 rfl rfl rfl (by simp) h
noncomputable abbrev f_record_fields.def : Func := Go.Proofs.Tryz.f113
theorem f_record_fields.fn : prog.funcs[f_record_fields]? = some f_record_fields.def := Go.Proofs.Tryz.func113
theorem f_record_fields.ok : Callable prog f_record_fields := callable_of Go.Proofs.Tryz.func113 (by kernel_rfl) rfl
def f_record_fields.live : Nat → Option (List Nat) := fun i => match i with
  | 0 => some [0, 2, 3]
  | 1 => some [0, 2, 3, 8]
  | 2 => some [0, 2, 3, 8, 9]
  | 3 => some [0, 2, 3, 8, 11]
  | 4 => some [0, 2, 3, 8, 13]
  | 5 => some [0, 2, 3, 8, 13]
  | 6 => some [0, 2, 3, 8, 16]
  | 7 => some [0, 2, 3, 8, 16]
  | 8 => some [0, 2, 3, 16]
  | 9 => some [0, 4]
  | 10 => some [2, 3]
  | 11 => some [2, 3]
  | 12 => some [0, 2]
  | 13 => some [0, 2, 3]
  | 14 => some [0, 2, 3]
  | 15 => some [2, 3]
  | 16 => some [2, 3]
  | _ => none
theorem f_record_fields.does {W : World} {H : HProp} {R : Ending → HProp → Prop} (a0 : Value) (h : exec prog W tab 102 f_record_fields.live (codeOf Go.Proofs.Tryz.f113) (bodyQ prog W tab [.tmp 2, .tmp 3] R) (argFr 0 [a0]) [] H) : Does prog W f_record_fields ⟨[a0]⟩ H R :=
  Does.of_exec tab_ok f_record_fields.live Go.Proofs.Tryz.func113 rfl rfl rfl (by simp) h
def f_record_fields.tree10 : PT := (.op 0 (.op 1 (.op 2 (.op 3 (.op 4 (.op 5 (.op 6 (.op 7 (.op 8 (.op 9 (.op 10 (.op 11 (.op 12 (.op 13 (.op 14 (.op 15 (.op 16 (.op 17 (.op 18 (.op 19 (.op 20 (.op 21 (.op 23 (.op 24 (.op 25 (.op 26 (.op 27 (.op 28 (.op 29 (.op 30 (.op 31 (.op 32 (.op 33 (.two 22 (.op 35 (.op 34 (.op 36 .nil))) 34 (.op 22 (.op 35 (.op 36 .nil)))))))))))))))))))))))))))))))))))))
def f_record_fields.plan12 : List Nat := [0, 1, 2, 3, 4, 5, 6, 7, 8, 9, 10, 11, 12, 13, 14, 15, 16, 17, 18, 19, 20, 21]
def f_record_fields.last12 : List Nat := [20, 21]
noncomputable abbrev f_field_Writer_S.def : Func := Go.Proofs.Tryz.f114
theorem f_field_Writer_S.fn : prog.funcs[f_field_Writer_S]? = some f_field_Writer_S.def := Go.Proofs.Tryz.func114
theorem f_field_Writer_S.ok : Callable prog f_field_Writer_S := callable_of Go.Proofs.Tryz.func114 (by kernel_rfl) rfl
def f_field_Writer_S.live : Nat → Option (List Nat) := fun i => match i with
  | 0 => some []
  | _ => none
theorem f_field_Writer_S.does {W : World} {H : HProp} {R : Ending → HProp → Prop} (a0 a1 : Value) (h : exec prog W tab 13 f_field_Writer_S.live (codeOf Go.Proofs.Tryz.f114) (bodyQ prog W tab [] R) (argFr 0 [a0, a1]) [] H) : Does prog W f_field_Writer_S ⟨[a0, a1]⟩ H R :=
  Does.of_exec tab_ok f_field_Writer_S.live Go.Proofs.Tryz.func114 rfl rfl rfl (by simp) h
noncomputable abbrev f_record_state.def : Func := Go.Proofs.Tryz.f115
theorem f_record_state.fn : prog.funcs[f_record_state]? = some f_record_state.def := Go.Proofs.Tryz.func115
theorem f_record_state.ok : Callable prog f_record_state := callable_of Go.Proofs.Tryz.func115 (by kernel_rfl) rfl
def f_record_state.live : Nat → Option (List Nat) := fun i => match i with
  | 0 => some [1]
  | 1 => some [1, 3]
  | 2 => some [2]
  | 3 => some [6]
  | 4 => some [2]
  | 5 => some [2]
  | _ => none
theorem f_record_state.does {W : World} {H : HProp} {R : Ending → HProp → Prop} (a0 : Value) (h : exec prog W tab 9 f_record_state.live (codeOf Go.Proofs.Tryz.f115) (bodyQ prog W tab [.tmp 2] R) (argFr 0 [a0]) [] H) : Does prog W f_record_state ⟨[a0]⟩ H R :=
  Does.of_exec tab_ok f_record_state.live Go.Proofs.Tryz.func115 rfl rfl rfl (by simp) h
noncomputable abbrev f_field_Writer_Out.def : Func := Go.Proofs.Tryz.f116
theorem f_field_Writer_Out.fn : prog.funcs[f_field_Writer_Out]? = some f_field_Writer_Out.def := Go.Proofs.Tryz.func116
theorem f_field_Writer_Out.ok : Callable prog f_field_Writer_Out := callable_of Go.Proofs.Tryz.func116 (by kernel_rfl) rfl
def f_field_Writer_Out.live : Nat → Option (List Nat) := fun i => match i with
  | 0 => some [0]
  | 1 => some [2]
  | _ => none
theorem f_field_Writer_Out.does {W : World} {H : HProp} {R : Ending → HProp → Prop} (a0 : Value) (h : exec prog W tab 8 f_field_Writer_Out.live (codeOf Go.Proofs.Tryz.f116) (bodyQ prog W tab [.tmp 2] R) (argFr 0 [a0]) [] H) : Does prog W f_field_Writer_Out ⟨[a0]⟩ H R :=
  Does.of_exec tab_ok f_field_Writer_Out.live Go.Proofs.Tryz.func116 rfl rfl rfl (by simp) h
noncomputable abbrev f_txns_open.def : Func := Go.Proofs.Tryz.f117
theorem f_txns_open.fn : prog.funcs[f_txns_open]? = some f_txns_open.def := Go.Proofs.Tryz.func117
theorem f_txns_open.ok : Callable prog f_txns_open := callable_of Go.Proofs.Tryz.func117 (by kernel_rfl) rfl
def f_txns_open.live : Nat → Option (List Nat) := fun i => match i with
  | 0 => some [1]
  | 1 => some [2]
  | _ => none
theorem f_txns_open.does {W : World} {H : HProp} {R : Ending → HProp → Prop} (a0 : Value) (h : exec prog W tab 11 f_txns_open.live (codeOf Go.Proofs.Tryz.f117) (bodyQ prog W tab [.tmp 2] R) (argFr 0 [a0]) [] H) : Does prog W f_txns_open ⟨[a0]⟩ H R :=
  Does.of_exec tab_ok f_txns_open.live Go.Proofs.Tryz.func117 rfl rfl rfl (by simp) h
noncomputable abbrev f_txns_stays.def : Func := Go.Proofs.Tryz.f118
theorem f_txns_stays.fn : prog.funcs[f_txns_stays]? = some f_txns_stays.def := Go.Proofs.Tryz.func118
theorem f_txns_stays.ok : Callable prog f_txns_stays := callable_of Go.Proofs.Tryz.func118 (by kernel_rfl) rfl
def f_txns_stays.live : Nat → Option (List Nat) := fun i => match i with
  | _ => none
theorem f_txns_stays.does {W : World} {H : HProp} {R : Ending → HProp → Prop} (a0 : Value) (h : exec prog W tab 2 f_txns_stays.live (codeOf Go.Proofs.Tryz.f118) (bodyQ prog W tab [] R) (argFr 0 [a0]) [] H) : Does prog W f_txns_stays ⟨[a0]⟩ H R :=
  Does.of_exec tab_ok f_txns_stays.live Go.Proofs.Tryz.func118 rfl rfl rfl (by simp) h
noncomputable abbrev f_txns_undoing.def : Func := Go.Proofs.Tryz.f119
theorem f_txns_undoing.fn : prog.funcs[f_txns_undoing]? = some f_txns_undoing.def := Go.Proofs.Tryz.func119
theorem f_txns_undoing.ok : Callable prog f_txns_undoing := callable_of Go.Proofs.Tryz.func119 (by kernel_rfl) rfl
def f_txns_undoing.live : Nat → Option (List Nat) := fun i => match i with
  | 0 => some [1]
  | 1 => some [2]
  | _ => none
theorem f_txns_undoing.does {W : World} {H : HProp} {R : Ending → HProp → Prop} (a0 : Value) (h : exec prog W tab 5 f_txns_undoing.live (codeOf Go.Proofs.Tryz.f119) (bodyQ prog W tab [.tmp 2] R) (argFr 0 [a0]) [] H) : Does prog W f_txns_undoing ⟨[a0]⟩ H R :=
  Does.of_exec tab_ok f_txns_undoing.live Go.Proofs.Tryz.func119 rfl rfl rfl (by simp) h
noncomputable abbrev f_txns_moves_1.def : Func := Go.Proofs.Tryz.f120
theorem f_txns_moves_1.fn : prog.funcs[f_txns_moves_1]? = some f_txns_moves_1.def := Go.Proofs.Tryz.func120
theorem f_txns_moves_1.ok : Callable prog f_txns_moves_1 := callable_of Go.Proofs.Tryz.func120 (by kernel_rfl) rfl
def f_txns_moves_1.live : Nat → Option (List Nat) := fun i => match i with
  | 0 => some []
  | _ => none
theorem f_txns_moves_1.does {W : World} {H : HProp} {R : Ending → HProp → Prop} (a0 : Value) (h : exec prog W tab 5 f_txns_moves_1.live (codeOf Go.Proofs.Tryz.f120) (bodyQ prog W tab [] R) (argFr 0 [a0]) [] H) : Does prog W f_txns_moves_1 ⟨[a0]⟩ H R :=
  Does.of_exec tab_ok f_txns_moves_1.live Go.Proofs.Tryz.func120 rfl rfl rfl (by simp) h
noncomputable abbrev f_txns_moves_2.def : Func := Go.Proofs.Tryz.f121
theorem f_txns_moves_2.fn : prog.funcs[f_txns_moves_2]? = some f_txns_moves_2.def := Go.Proofs.Tryz.func121
theorem f_txns_moves_2.ok : Callable prog f_txns_moves_2 := callable_of Go.Proofs.Tryz.func121 (by kernel_rfl) rfl
def f_txns_moves_2.live : Nat → Option (List Nat) := fun i => match i with
  | 0 => some []
  | _ => none
theorem f_txns_moves_2.does {W : World} {H : HProp} {R : Ending → HProp → Prop} (a0 : Value) (h : exec prog W tab 5 f_txns_moves_2.live (codeOf Go.Proofs.Tryz.f121) (bodyQ prog W tab [] R) (argFr 0 [a0]) [] H) : Does prog W f_txns_moves_2 ⟨[a0]⟩ H R :=
  Does.of_exec tab_ok f_txns_moves_2.live Go.Proofs.Tryz.func121 rfl rfl rfl (by simp) h
noncomputable abbrev f_txns_ending.def : Func := Go.Proofs.Tryz.f122
theorem f_txns_ending.fn : prog.funcs[f_txns_ending]? = some f_txns_ending.def := Go.Proofs.Tryz.func122
theorem f_txns_ending.ok : Callable prog f_txns_ending := callable_of Go.Proofs.Tryz.func122 (by kernel_rfl) rfl
def f_txns_ending.live : Nat → Option (List Nat) := fun i => match i with
  | 0 => some [1]
  | 1 => some [2]
  | _ => none
theorem f_txns_ending.does {W : World} {H : HProp} {R : Ending → HProp → Prop} (a0 : Value) (h : exec prog W tab 6 f_txns_ending.live (codeOf Go.Proofs.Tryz.f122) (bodyQ prog W tab [.tmp 2] R) (argFr 0 [a0]) [] H) : Does prog W f_txns_ending ⟨[a0]⟩ H R :=
  Does.of_exec tab_ok f_txns_ending.live Go.Proofs.Tryz.func122 rfl rfl rfl (by simp) h
noncomputable abbrev f_pool_Pool_write.def : Func := Go.Proofs.Tryz.f123
theorem f_pool_Pool_write.fn : prog.funcs[f_pool_Pool_write]? = some f_pool_Pool_write.def := Go.Proofs.Tryz.func123
theorem f_pool_Pool_write.ok : Callable prog f_pool_Pool_write := callable_of Go.Proofs.Tryz.func123 (by kernel_rfl) rfl
def f_pool_Pool_write.live : Nat → Option (List Nat) := fun i => match i with
  | 0 => some [0, 1]
  | 1 => some [0, 1, 5]
  | 2 => some [0, 1, 5, 21]
  | 3 => some [4]
  | 4 => some [0, 1, 5, 6]
  | 5 => some [0, 1, 5, 6, 35]
  | 6 => some [4]
  | 7 => some [0, 1, 5, 7, 8]
  | 8 => some [0, 1, 5, 7, 8, 46]
  | 9 => some [4]
  | 10 => some [0, 5, 7, 8, 9]
  | 11 => some [0, 5, 7, 8, 9, 58]
  | 12 => some [4]
  | 13 => some [5, 10]
  | 14 => some [5, 10, 70]
  | 15 => some [4]
  | 16 => some []
  | 17 => some [4]
  | _ => none
theorem f_pool_Pool_write.does {W : World} {H : HProp} {R : Ending → HProp → Prop} (a0 a1 : Value) (h : exec prog W tab 78 f_pool_Pool_write.live (codeOf Go.Proofs.Tryz.f123) (bodyQ prog W tab [.tmp 4] R) (argFr 0 [a0, a1]) [] H) : Does prog W f_pool_Pool_write ⟨[a0, a1]⟩ H R :=
  Does.of_exec tab_ok f_pool_Pool_write.live Go.Proofs.Tryz.func123 rfl rfl rfl (by simp) h
def f_pool_Pool_write.plan4 : List Nat := [0, 1, 2, 3, 4, 5, 6, 7, 8, 9, 10, 11, 12]
def f_pool_Pool_write.last4 : List Nat := [11, 12]
noncomputable abbrev f_master_may.def : Func := Go.Proofs.Tryz.f124
theorem f_master_may.fn : prog.funcs[f_master_may]? = some f_master_may.def := Go.Proofs.Tryz.func124
theorem f_master_may.ok : Callable prog f_master_may := callable_of Go.Proofs.Tryz.func124 (by kernel_rfl) rfl
def f_master_may.live : Nat → Option (List Nat) := fun i => match i with
  | 0 => some [1]
  | 1 => some [2]
  | _ => none
theorem f_master_may.does {W : World} {H : HProp} {R : Ending → HProp → Prop} (a0 : Value) (h : exec prog W tab 31 f_master_may.live (codeOf Go.Proofs.Tryz.f124) (bodyQ prog W tab [.tmp 2] R) (argFr 0 [a0]) [] H) : Does prog W f_master_may ⟨[a0]⟩ H R :=
  Does.of_exec tab_ok f_master_may.live Go.Proofs.Tryz.func124 rfl rfl rfl (by simp) h
noncomputable abbrev f_twin_Read_1.def : Func := Go.Proofs.Tryz.f125
theorem f_twin_Read_1.fn : prog.funcs[f_twin_Read_1]? = some f_twin_Read_1.def := Go.Proofs.Tryz.func125
theorem f_twin_Read_1.ok : Callable prog f_twin_Read_1 := callable_of Go.Proofs.Tryz.func125 (by kernel_rfl) rfl
def f_twin_Read_1.live : Nat → Option (List Nat) := fun i => match i with
  | 0 => some []
  | _ => none
theorem f_twin_Read_1.does {W : World} {H : HProp} {R : Ending → HProp → Prop} (a0 : Value) (h : exec prog W tab 3 f_twin_Read_1.live (codeOf Go.Proofs.Tryz.f125) (bodyQ prog W tab [] R) (argFr 0 [a0]) [] H) : Does prog W f_twin_Read_1 ⟨[a0]⟩ H R :=
  Does.of_exec tab_ok f_twin_Read_1.live Go.Proofs.Tryz.func125 rfl rfl rfl (by simp) h
noncomputable abbrev f_twin_told.def : Func := Go.Proofs.Tryz.f126
theorem f_twin_told.fn : prog.funcs[f_twin_told]? = some f_twin_told.def := Go.Proofs.Tryz.func126
theorem f_twin_told.ok : Callable prog f_twin_told := callable_of Go.Proofs.Tryz.func126 (by kernel_rfl) rfl
def f_twin_told.live : Nat → Option (List Nat) := fun i => match i with
  | 0 => some [0, 1, 4]
  | 1 => some [0, 1, 4, 7]
  | 2 => some [0, 1, 4, 7, 8]
  | 3 => some []
  | 4 => some [4]
  | 5 => some [0, 1, 4, 10, 11]
  | 6 => some [0, 6]
  | 7 => some [4]
  | 8 => some [4]
  | _ => none
theorem f_twin_told.does {W : World} {H : HProp} {R : Ending → HProp → Prop} (a0 a1 : Value) (h : exec prog W tab 20 f_twin_told.live (codeOf Go.Proofs.Tryz.f126) (bodyQ prog W tab [.tmp 4] R) (argFr 0 [a0, a1]) [] H) : Does prog W f_twin_told ⟨[a0, a1]⟩ H R :=
  Does.of_exec tab_ok f_twin_told.live Go.Proofs.Tryz.func126 rfl rfl rfl (by simp) h
noncomputable abbrev f_twin_running.def : Func := Go.Proofs.Tryz.f127
theorem f_twin_running.fn : prog.funcs[f_twin_running]? = some f_twin_running.def := Go.Proofs.Tryz.func127
theorem f_twin_running.ok : Callable prog f_twin_running := callable_of Go.Proofs.Tryz.func127 (by kernel_rfl) rfl
def f_twin_running.live : Nat → Option (List Nat) := fun i => match i with
  | 0 => some [0]
  | 1 => some []
  | _ => none
theorem f_twin_running.does {W : World} {H : HProp} {R : Ending → HProp → Prop} (a0 : Value) (h : exec prog W tab 9 f_twin_running.live (codeOf Go.Proofs.Tryz.f127) (bodyQ prog W tab [] R) (argFr 0 [a0]) [] H) : Does prog W f_twin_running ⟨[a0]⟩ H R :=
  Does.of_exec tab_ok f_twin_running.live Go.Proofs.Tryz.func127 rfl rfl rfl (by simp) h
noncomputable abbrev f_twin_need.def : Func := Go.Proofs.Tryz.f128
theorem f_twin_need.fn : prog.funcs[f_twin_need]? = some f_twin_need.def := Go.Proofs.Tryz.func128
theorem f_twin_need.ok : Callable prog f_twin_need := callable_of Go.Proofs.Tryz.func128 (by kernel_rfl) rfl
def f_twin_need.live : Nat → Option (List Nat) := fun i => match i with
  | 0 => some [1, 5]
  | 1 => some []
  | _ => none
theorem f_twin_need.does {W : World} {H : HProp} {R : Ending → HProp → Prop} (a0 a1 : Value) (h : exec prog W tab 9 f_twin_need.live (codeOf Go.Proofs.Tryz.f128) (bodyQ prog W tab [] R) (argFr 0 [a0, a1]) [] H) : Does prog W f_twin_need ⟨[a0, a1]⟩ H R :=
  Does.of_exec tab_ok f_twin_need.live Go.Proofs.Tryz.func128 rfl rfl rfl (by simp) h
noncomputable abbrev f_twin_there.def : Func := Go.Proofs.Tryz.f129
theorem f_twin_there.fn : prog.funcs[f_twin_there]? = some f_twin_there.def := Go.Proofs.Tryz.func129
theorem f_twin_there.ok : Callable prog f_twin_there := callable_of Go.Proofs.Tryz.func129 (by kernel_rfl) rfl
def f_twin_there.live : Nat → Option (List Nat) := fun i => match i with
  | 0 => some [0, 1, 2]
  | 1 => some [6]
  | _ => none
theorem f_twin_there.does {W : World} {H : HProp} {R : Ending → HProp → Prop} (a0 a1 a2 : Value) (h : exec prog W tab 23 f_twin_there.live (codeOf Go.Proofs.Tryz.f129) (bodyQ prog W tab [.tmp 6] R) (argFr 0 [a0, a1, a2]) [] H) : Does prog W f_twin_there ⟨[a0, a1, a2]⟩ H R :=
  Does.of_exec tab_ok f_twin_there.live Go.Proofs.Tryz.func129 rfl rfl rfl (by simp) h
noncomputable abbrev f_twin_get.def : Func := Go.Proofs.Tryz.f130
theorem f_twin_get.fn : prog.funcs[f_twin_get]? = some f_twin_get.def := Go.Proofs.Tryz.func130
theorem f_twin_get.ok : Callable prog f_twin_get := callable_of Go.Proofs.Tryz.func130 (by kernel_rfl) rfl
def f_twin_get.live : Nat → Option (List Nat) := fun i => match i with
  | 0 => some [0, 1]
  | 1 => some [5, 6]
  | 2 => some [5]
  | 3 => some [4]
  | _ => none
theorem f_twin_get.does {W : World} {H : HProp} {R : Ending → HProp → Prop} (a0 a1 : Value) (h : exec prog W tab 16 f_twin_get.live (codeOf Go.Proofs.Tryz.f130) (bodyQ prog W tab [.tmp 4] R) (argFr 0 [a0, a1]) [] H) : Does prog W f_twin_get ⟨[a0, a1]⟩ H R :=
  Does.of_exec tab_ok f_twin_get.live Go.Proofs.Tryz.func130 rfl rfl rfl (by simp) h
noncomputable abbrev f_page_in.def : Func := Go.Proofs.Tryz.f131
theorem f_page_in.fn : prog.funcs[f_page_in]? = some f_page_in.def := Go.Proofs.Tryz.func131
theorem f_page_in.ok : Callable prog f_page_in := callable_of Go.Proofs.Tryz.func131 (by kernel_rfl) rfl
def f_page_in.live : Nat → Option (List Nat) := fun i => match i with
  | 0 => some [0, 1, 2]
  | 1 => some [6]
  | _ => none
theorem f_page_in.does {W : World} {H : HProp} {R : Ending → HProp → Prop} (a0 a1 a2 : Value) (h : exec prog W tab 15 f_page_in.live (codeOf Go.Proofs.Tryz.f131) (bodyQ prog W tab [.tmp 6] R) (argFr 0 [a0, a1, a2]) [] H) : Does prog W f_page_in ⟨[a0, a1, a2]⟩ H R :=
  Does.of_exec tab_ok f_page_in.live Go.Proofs.Tryz.func131 rfl rfl rfl (by simp) h
noncomputable abbrev f_page_zeros.def : Func := Go.Proofs.Tryz.f132
theorem f_page_zeros.fn : prog.funcs[f_page_zeros]? = some f_page_zeros.def := Go.Proofs.Tryz.func132
theorem f_page_zeros.ok : Callable prog f_page_zeros := callable_of Go.Proofs.Tryz.func132 (by kernel_rfl) rfl
def f_page_zeros.live : Nat → Option (List Nat) := fun i => match i with
  | 0 => some [0]
  | 1 => some [2]
  | _ => none
theorem f_page_zeros.does {W : World} {H : HProp} {R : Ending → HProp → Prop} (a0 : Value) (h : exec prog W tab 6 f_page_zeros.live (codeOf Go.Proofs.Tryz.f132) (bodyQ prog W tab [.tmp 2] R) (argFr 0 [a0]) [] H) : Does prog W f_page_zeros ⟨[a0]⟩ H R :=
  Does.of_exec tab_ok f_page_zeros.live Go.Proofs.Tryz.func132 rfl rfl rfl (by simp) h
noncomputable abbrev f_page_taken.def : Func := Go.Proofs.Tryz.f133
theorem f_page_taken.fn : prog.funcs[f_page_taken]? = some f_page_taken.def := Go.Proofs.Tryz.func133
theorem f_page_taken.ok : Callable prog f_page_taken := callable_of Go.Proofs.Tryz.func133 (by kernel_rfl) rfl
def f_page_taken.live : Nat → Option (List Nat) := fun i => match i with
  | 0 => some [0, 1, 2]
  | 1 => some [0, 1, 2, 7]
  | 2 => some [0, 1, 7, 12, 13, 14]
  | 3 => some [0, 1, 7, 12, 13, 14, 15]
  | 4 => some [0, 1, 7, 9, 12, 13, 14]
  | 5 => some [0, 1, 7, 9, 10, 12, 13, 14]
  | 6 => some [0, 1, 7, 9, 12, 13, 14]
  | 7 => some [0, 1, 7, 12, 13, 14]
  | 8 => some [0, 1, 7, 12, 13, 14]
  | 9 => some [6]
  | _ => none
theorem f_page_taken.does {W : World} {H : HProp} {R : Ending → HProp → Prop} (a0 a1 a2 : Value) (h : exec prog W tab 34 f_page_taken.live (codeOf Go.Proofs.Tryz.f133) (bodyQ prog W tab [.tmp 6] R) (argFr 0 [a0, a1, a2]) [] H) : Does prog W f_page_taken ⟨[a0, a1, a2]⟩ H R :=
  Does.of_exec tab_ok f_page_taken.live Go.Proofs.Tryz.func133 rfl rfl rfl (by simp) h
noncomputable abbrev f_field_Get.def : Func := Go.Proofs.Tryz.f134
theorem f_field_Get.fn : prog.funcs[f_field_Get]? = some f_field_Get.def := Go.Proofs.Tryz.func134
theorem f_field_Get.ok : Callable prog f_field_Get := callable_of Go.Proofs.Tryz.func134 (by kernel_rfl) rfl
def f_field_Get.live : Nat → Option (List Nat) := fun i => match i with
  | 0 => some [0, 1, 2]
  | 1 => some [0, 1, 2, 15]
  | 2 => some [6, 7]
  | 3 => some [0, 1, 2, 8]
  | 4 => some [0, 1, 8, 16, 17]
  | 5 => some [0, 1, 8, 16, 17, 18]
  | 6 => some [0, 1, 8, 9, 16, 17]
  | 7 => some [0, 1, 8, 16, 17]
  | 8 => some [0, 1, 8, 16, 17]
  | 9 => some [6, 7]
  | _ => none
theorem f_field_Get.does {W : World} {H : HProp} {R : Ending → HProp → Prop} (a0 a1 a2 : Value) (h : exec prog W tab 34 f_field_Get.live (codeOf Go.Proofs.Tryz.f134) (bodyQ prog W tab [.tmp 6, .tmp 7] R) (argFr 0 [a0, a1, a2]) [] H) : Does prog W f_field_Get ⟨[a0, a1, a2]⟩ H R :=
  Does.of_exec tab_ok f_field_Get.live Go.Proofs.Tryz.func134 rfl rfl rfl (by simp) h
noncomputable abbrev f_page_sum.def : Func := Go.Proofs.Tryz.f135
theorem f_page_sum.fn : prog.funcs[f_page_sum]? = some f_page_sum.def := Go.Proofs.Tryz.func135
theorem f_page_sum.ok : Callable prog f_page_sum := callable_of Go.Proofs.Tryz.func135 (by kernel_rfl) rfl
def f_page_sum.live : Nat → Option (List Nat) := fun i => match i with
  | 0 => some [0]
  | 1 => some [2]
  | _ => none
theorem f_page_sum.does {W : World} {H : HProp} {R : Ending → HProp → Prop} (a0 : Value) (h : exec prog W tab 10 f_page_sum.live (codeOf Go.Proofs.Tryz.f135) (bodyQ prog W tab [.tmp 2] R) (argFr 0 [a0]) [] H) : Does prog W f_page_sum ⟨[a0]⟩ H R :=
  Does.of_exec tab_ok f_page_sum.live Go.Proofs.Tryz.func135 rfl rfl rfl (by simp) h
def f_page_sum.plan1 : List Nat := [0, 1, 3, 4, 2, 5, 6, 7]
def f_page_sum.last1 : List Nat := [5, 6, 7]
noncomputable abbrev f_page_Page_contents.def : Func := Go.Proofs.Tryz.f136
theorem f_page_Page_contents.fn : prog.funcs[f_page_Page_contents]? = some f_page_Page_contents.def := Go.Proofs.Tryz.func136
theorem f_page_Page_contents.ok : Callable prog f_page_Page_contents := callable_of Go.Proofs.Tryz.func136 (by kernel_rfl) rfl
def f_page_Page_contents.live : Nat → Option (List Nat) := fun i => match i with
  | 0 => some [1]
  | 1 => some [1, 8, 9, 10]
  | 2 => some [1, 8, 9, 10, 11]
  | 3 => some [1, 4, 8, 9, 10]
  | 4 => some [1, 4, 8, 9, 10, 23]
  | 5 => some [2]
  | 6 => some [1, 8, 9, 10, 30]
  | 7 => some [2]
  | 8 => some [1, 8, 9, 10]
  | 9 => some [33, 34, 35]
  | 10 => some [33, 34, 35, 36]
  | 11 => some [6, 33, 34, 35]
  | 12 => some [33, 34, 35, 42]
  | 13 => some [2]
  | 14 => some [33, 34, 35]
  | 15 => some [2]
  | _ => none
theorem f_page_Page_contents.does {W : World} {H : HProp} {R : Ending → HProp → Prop} (a0 : Value) (h : exec prog W tab 44 f_page_Page_contents.live (codeOf Go.Proofs.Tryz.f136) (bodyQ prog W tab [.tmp 2] R) (argFr 0 [a0]) [] H) : Does prog W f_page_Page_contents ⟨[a0]⟩ H R :=
  Does.of_exec tab_ok f_page_Page_contents.live Go.Proofs.Tryz.func136 rfl rfl rfl (by simp) h
noncomputable abbrev f_page_Page_refused.def : Func := Go.Proofs.Tryz.f141
theorem f_page_Page_refused.fn : prog.funcs[f_page_Page_refused]? = some f_page_Page_refused.def := Go.Proofs.Tryz.func141
theorem f_page_Page_refused.ok : Callable prog f_page_Page_refused := callable_of Go.Proofs.Tryz.func141 (by kernel_rfl) rfl
def f_page_Page_refused.live : Nat → Option (List Nat) := fun i => match i with
  | 0 => some [1]
  | 1 => some [1, 3]
  | 2 => some [2]
  | 3 => some [1, 8]
  | 4 => some [2]
  | 5 => some [1, 19]
  | 6 => some [2]
  | 7 => some [1, 30]
  | 8 => some [2]
  | 9 => some [2]
  | _ => none
theorem f_page_Page_refused.does {W : World} {H : HProp} {R : Ending → HProp → Prop} (a0 : Value) (h : exec prog W tab 46 f_page_Page_refused.live (codeOf Go.Proofs.Tryz.f141) (bodyQ prog W tab [.tmp 2] R) (argFr 0 [a0]) [] H) : Does prog W f_page_Page_refused ⟨[a0]⟩ H R :=
  Does.of_exec tab_ok f_page_Page_refused.live Go.Proofs.Tryz.func141 rfl rfl rfl (by simp) h
def f_page_Page_refused.plan7 : List Nat := [0, 1, 2, 3, 4, 5, 6, 7, 8, 9, 10, 11, 12, 13]
def f_page_Page_refused.last7 : List Nat := [11, 12, 13]
noncomputable abbrev f_page_Page_size.def : Func := Go.Proofs.Tryz.f142
theorem f_page_Page_size.fn : prog.funcs[f_page_Page_size]? = some f_page_Page_size.def := Go.Proofs.Tryz.func142
theorem f_page_Page_size.ok : Callable prog f_page_Page_size := callable_of Go.Proofs.Tryz.func142 (by kernel_rfl) rfl
def f_page_Page_size.live : Nat → Option (List Nat) := fun i => match i with
  | 0 => some [1]
  | 1 => some [2]
  | _ => none
theorem f_page_Page_size.does {W : World} {H : HProp} {R : Ending → HProp → Prop} (a0 : Value) (h : exec prog W tab 10 f_page_Page_size.live (codeOf Go.Proofs.Tryz.f142) (bodyQ prog W tab [.tmp 2] R) (argFr 0 [a0]) [] H) : Does prog W f_page_Page_size ⟨[a0]⟩ H R :=
  Does.of_exec tab_ok f_page_Page_size.live Go.Proofs.Tryz.func142 rfl rfl rfl (by simp) h
noncomputable abbrev f_page_laid.def : Func := Go.Proofs.Tryz.f143
theorem f_page_laid.fn : prog.funcs[f_page_laid]? = some f_page_laid.def := Go.Proofs.Tryz.func143
theorem f_page_laid.ok : Callable prog f_page_laid := callable_of Go.Proofs.Tryz.func143 (by kernel_rfl) rfl
def f_page_laid.live : Nat → Option (List Nat) := fun i => match i with
  | 0 => some [0, 1, 2, 10, 11, 12]
  | 1 => some [0, 1, 2, 10, 11, 12, 13]
  | 2 => some [0, 1, 2, 8, 9, 10, 11, 12]
  | 3 => some [0, 1, 2, 8, 10, 11, 12]
  | 4 => some [0, 1, 2, 10, 11, 12]
  | 5 => some [0, 1, 2, 10, 11, 12]
  | _ => none
theorem f_page_laid.does {W : World} {H : HProp} {R : Ending → HProp → Prop} (a0 a1 a2 a3 : Value) (h : exec prog W tab 32 f_page_laid.live (codeOf Go.Proofs.Tryz.f143) (bodyQ prog W tab [] R) (argFr 0 [a0, a1, a2, a3]) [] H) : Does prog W f_page_laid ⟨[a0, a1, a2, a3]⟩ H R :=
  Does.of_exec tab_ok f_page_laid.live Go.Proofs.Tryz.func143 rfl rfl rfl (by simp) h
noncomputable abbrev f_slices_siftDownOrdered_int.def : Func := Go.Proofs.Tryz.f144
theorem f_slices_siftDownOrdered_int.fn : prog.funcs[f_slices_siftDownOrdered_int]? = some f_slices_siftDownOrdered_int.def := Go.Proofs.Tryz.func144
theorem f_slices_siftDownOrdered_int.ok : Callable prog f_slices_siftDownOrdered_int := callable_of Go.Proofs.Tryz.func144 (by kernel_rfl) rfl
def f_slices_siftDownOrdered_int.live : Nat → Option (List Nat) := fun i => match i with
  | 0 => some [0, 2, 3, 8]
  | 1 => some [0, 2, 3, 8, 9]
  | 2 => some [0, 2, 3, 8, 9, 16]
  | 3 => some [0, 2, 3, 8, 9, 36]
  | 4 => some [0, 2, 3, 8, 9]
  | 5 => some [0, 2, 3, 8, 9, 52]
  | 6 => some [0, 2, 3, 9]
  | 7 => some [0, 2, 3, 8]
  | _ => none
theorem f_slices_siftDownOrdered_int.does {W : World} {H : HProp} {R : Ending → HProp → Prop} (a0 a1 a2 a3 : Value) (h : exec prog W tab 76 f_slices_siftDownOrdered_int.live (codeOf Go.Proofs.Tryz.f144) (bodyQ prog W tab [] R) (argFr 0 [a0, a1, a2, a3]) [] H) : Does prog W f_slices_siftDownOrdered_int ⟨[a0, a1, a2, a3]⟩ H R :=
  Does.of_exec tab_ok f_slices_siftDownOrdered_int.live Go.Proofs.Tryz.func144 rfl rfl rfl (by simp) h
def f_slices_siftDownOrdered_int.plan3 : List Nat := [0, 1, 2, 3, 4, 5, 6, 7, 8, 9, 10, 11, 12, 13, 14, 15, 16, 17, 18, 19]
def f_slices_siftDownOrdered_int.last3 : List Nat := [18, 19]
def f_slices_siftDownOrdered_int.plan5 : List Nat := [0, 1, 2, 3, 4, 5, 6, 7, 8, 9, 10, 11, 12, 13]
def f_slices_siftDownOrdered_int.last5 : List Nat := [12, 13]
def f_slices_siftDownOrdered_int.plan6 : List Nat := [0, 1, 2, 3, 4, 5, 6, 7, 8, 9, 10, 11, 12, 13, 14, 15, 16, 17, 18, 19, 20, 21, 22, 23]
def f_slices_siftDownOrdered_int.last6 : List Nat := [22, 23]
noncomputable abbrev f_slices_nextPowerOfTwo.def : Func := Go.Proofs.Tryz.f145
theorem f_slices_nextPowerOfTwo.fn : prog.funcs[f_slices_nextPowerOfTwo]? = some f_slices_nextPowerOfTwo.def := Go.Proofs.Tryz.func145
theorem f_slices_nextPowerOfTwo.ok : Callable prog f_slices_nextPowerOfTwo := callable_of Go.Proofs.Tryz.func145 (by kernel_rfl) rfl
def f_slices_nextPowerOfTwo.live : Nat → Option (List Nat) := fun i => match i with
  | 0 => some [0]
  | 1 => some [2]
  | _ => none
theorem f_slices_nextPowerOfTwo.does {W : World} {H : HProp} {R : Ending → HProp → Prop} (a0 : Value) (h : exec prog W tab 7 f_slices_nextPowerOfTwo.live (codeOf Go.Proofs.Tryz.f145) (bodyQ prog W tab [.tmp 2] R) (argFr 0 [a0]) [] H) : Does prog W f_slices_nextPowerOfTwo ⟨[a0]⟩ H R :=
  Does.of_exec tab_ok f_slices_nextPowerOfTwo.live Go.Proofs.Tryz.func145 rfl rfl rfl (by simp) h
noncomputable abbrev f_slices_xorshift_Next.def : Func := Go.Proofs.Tryz.f146
theorem f_slices_xorshift_Next.fn : prog.funcs[f_slices_xorshift_Next]? = some f_slices_xorshift_Next.def := Go.Proofs.Tryz.func146
theorem f_slices_xorshift_Next.ok : Callable prog f_slices_xorshift_Next := callable_of Go.Proofs.Tryz.func146 (by kernel_rfl) rfl
def f_slices_xorshift_Next.live : Nat → Option (List Nat) := fun i => match i with
  | 0 => some [0]
  | 1 => some [0]
  | 2 => some [0]
  | 3 => some [0]
  | 4 => some [2]
  | _ => none
theorem f_slices_xorshift_Next.does {W : World} {H : HProp} {R : Ending → HProp → Prop} (a0 : Value) (h : exec prog W tab 33 f_slices_xorshift_Next.live (codeOf Go.Proofs.Tryz.f146) (bodyQ prog W tab [.tmp 2] R) (argFr 0 [a0]) [] H) : Does prog W f_slices_xorshift_Next ⟨[a0]⟩ H R :=
  Does.of_exec tab_ok f_slices_xorshift_Next.live Go.Proofs.Tryz.func146 rfl rfl rfl (by simp) h
def f_slices_xorshift_Next.plan1 : List Nat := [0, 1, 2, 3, 4, 5, 6, 7, 8, 9]
def f_slices_xorshift_Next.last1 : List Nat := [7, 8, 9]
def f_slices_xorshift_Next.plan2 : List Nat := [0, 1, 2, 3, 4, 5, 6, 7, 8, 9]
def f_slices_xorshift_Next.last2 : List Nat := [7, 8, 9]
def f_slices_xorshift_Next.plan3 : List Nat := [0, 1, 2, 3, 4, 5, 6, 7, 8, 9]
def f_slices_xorshift_Next.last3 : List Nat := [7, 8, 9]
noncomputable abbrev f_slices_medianAdjacentOrdered_int.def : Func := Go.Proofs.Tryz.f147
theorem f_slices_medianAdjacentOrdered_int.fn : prog.funcs[f_slices_medianAdjacentOrdered_int]? = some f_slices_medianAdjacentOrdered_int.def := Go.Proofs.Tryz.func147
theorem f_slices_medianAdjacentOrdered_int.ok : Callable prog f_slices_medianAdjacentOrdered_int := callable_of Go.Proofs.Tryz.func147 (by kernel_rfl) rfl
def f_slices_medianAdjacentOrdered_int.live : Nat → Option (List Nat) := fun i => match i with
  | 0 => some [0, 1, 2]
  | 1 => some [6]
  | _ => none
theorem f_slices_medianAdjacentOrdered_int.does {W : World} {H : HProp} {R : Ending → HProp → Prop} (a0 a1 a2 : Value) (h : exec prog W tab 15 f_slices_medianAdjacentOrdered_int.live (codeOf Go.Proofs.Tryz.f147) (bodyQ prog W tab [.tmp 6] R) (argFr 0 [a0, a1, a2]) [] H) : Does prog W f_slices_medianAdjacentOrdered_int ⟨[a0, a1, a2]⟩ H R :=
  Does.of_exec tab_ok f_slices_medianAdjacentOrdered_int.live Go.Proofs.Tryz.func147 rfl rfl rfl (by simp) h
noncomputable abbrev f_slices_medianOrdered_int.def : Func := Go.Proofs.Tryz.f148
theorem f_slices_medianOrdered_int.fn : prog.funcs[f_slices_medianOrdered_int]? = some f_slices_medianOrdered_int.def := Go.Proofs.Tryz.func148
theorem f_slices_medianOrdered_int.ok : Callable prog f_slices_medianOrdered_int := callable_of Go.Proofs.Tryz.func148 (by kernel_rfl) rfl
def f_slices_medianOrdered_int.live : Nat → Option (List Nat) := fun i => match i with
  | 0 => some [0, 1, 2, 3, 4]
  | 1 => some [0, 1, 2, 3, 4]
  | 2 => some [0, 1, 2, 4]
  | 3 => some [2]
  | 4 => some [10]
  | _ => none
theorem f_slices_medianOrdered_int.does {W : World} {H : HProp} {R : Ending → HProp → Prop} (a0 a1 a2 a3 a4 : Value) (h : exec prog W tab 36 f_slices_medianOrdered_int.live (codeOf Go.Proofs.Tryz.f148) (bodyQ prog W tab [.tmp 10] R) (argFr 0 [a0, a1, a2, a3, a4]) [] H) : Does prog W f_slices_medianOrdered_int ⟨[a0, a1, a2, a3, a4]⟩ H R :=
  Does.of_exec tab_ok f_slices_medianOrdered_int.live Go.Proofs.Tryz.func148 rfl rfl rfl (by simp) h
noncomputable abbrev f_cmp_isNaN_int.def : Func := Go.Proofs.Tryz.f149
theorem f_cmp_isNaN_int.fn : prog.funcs[f_cmp_isNaN_int]? = some f_cmp_isNaN_int.def := Go.Proofs.Tryz.func149
theorem f_cmp_isNaN_int.ok : Callable prog f_cmp_isNaN_int := callable_of Go.Proofs.Tryz.func149 (by kernel_rfl) rfl
def f_cmp_isNaN_int.live : Nat → Option (List Nat) := fun i => match i with
  | 0 => some [0]
  | 1 => some [2]
  | _ => none
theorem f_cmp_isNaN_int.does {W : World} {H : HProp} {R : Ending → HProp → Prop} (a0 : Value) (h : exec prog W tab 6 f_cmp_isNaN_int.live (codeOf Go.Proofs.Tryz.f149) (bodyQ prog W tab [.tmp 2] R) (argFr 0 [a0]) [] H) : Does prog W f_cmp_isNaN_int ⟨[a0]⟩ H R :=
  Does.of_exec tab_ok f_cmp_isNaN_int.live Go.Proofs.Tryz.func149 rfl rfl rfl (by simp) h
noncomputable abbrev f_slices_Clone_S_byte_byte.def : Func := Go.Proofs.Tryz.f150
theorem f_slices_Clone_S_byte_byte.fn : prog.funcs[f_slices_Clone_S_byte_byte]? = some f_slices_Clone_S_byte_byte.def := Go.Proofs.Tryz.func150
theorem f_slices_Clone_S_byte_byte.ok : Callable prog f_slices_Clone_S_byte_byte := callable_of Go.Proofs.Tryz.func150 (by kernel_rfl) rfl
def f_slices_Clone_S_byte_byte.live : Nat → Option (List Nat) := fun i => match i with
  | 0 => some [0]
  | 1 => some [0, 4]
  | 2 => some [2]
  | 3 => some [2]
  | _ => none
theorem f_slices_Clone_S_byte_byte.does {W : World} {H : HProp} {R : Ending → HProp → Prop} (a0 : Value) (h : exec prog W tab 8 f_slices_Clone_S_byte_byte.live (codeOf Go.Proofs.Tryz.f150) (bodyQ prog W tab [.tmp 2] R) (argFr 0 [a0]) [] H) : Does prog W f_slices_Clone_S_byte_byte ⟨[a0]⟩ H R :=
  Does.of_exec tab_ok f_slices_Clone_S_byte_byte.live Go.Proofs.Tryz.func150 rfl rfl rfl (by simp) h
noncomputable abbrev f_log_Log_Force.def : Func := Go.Proofs.Tryz.f151
theorem f_log_Log_Force.fn : prog.funcs[f_log_Log_Force]? = some f_log_Log_Force.def := Go.Proofs.Tryz.func151
theorem f_log_Log_Force.ok : Callable prog f_log_Log_Force := callable_of Go.Proofs.Tryz.func151 (by kernel_rfl) rfl
def f_log_Log_Force.live : Nat → Option (List Nat) := fun i => match i with
  | 0 => some [2, 3]
  | 1 => some [2, 3, 10]
  | 2 => some [4]
  | 3 => some [2, 3, 25]
  | 4 => some [4]
  | 5 => some [2, 3, 35]
  | 6 => some [4]
  | 7 => some [2, 3, 5]
  | 8 => some [2, 3, 5, 39]
  | 9 => some [5]
  | 10 => some [4]
  | 11 => some [2, 3]
  | 12 => some []
  | 13 => some [4]
  | _ => none
theorem f_log_Log_Force.does {W : World} {H : HProp} {R : Ending → HProp → Prop} (a0 a1 : Value) (h : exec prog W tab 63 f_log_Log_Force.live (codeOf Go.Proofs.Tryz.f151) (bodyQ prog W tab [.tmp 4] R) (argFr 0 [a0, a1]) [] H) : Does prog W f_log_Log_Force ⟨[a0, a1]⟩ H R :=
  Does.of_exec tab_ok f_log_Log_Force.live Go.Proofs.Tryz.func151 rfl rfl rfl (by simp) h
def f_log_Log_Force.plan3 : List Nat := [0, 1, 2, 3, 4, 5, 6, 7, 8, 9, 10]
def f_log_Log_Force.last3 : List Nat := [9, 10]
def f_log_Log_Force.plan5 : List Nat := [0, 1, 2, 3, 4, 5]
def f_log_Log_Force.last5 : List Nat := [5]
def f_log_Log_Force.plan11 : List Nat := [0, 1, 2, 3, 4, 5, 6, 7, 8, 9, 10, 11, 12, 13, 14]
def f_log_Log_Force.last11 : List Nat := [12, 13, 14]
noncomputable abbrev f_twin_Write.def : Func := Go.Proofs.Tryz.f152
theorem f_twin_Write.fn : prog.funcs[f_twin_Write]? = some f_twin_Write.def := Go.Proofs.Tryz.func152
theorem f_twin_Write.ok : Callable prog f_twin_Write := callable_of Go.Proofs.Tryz.func152 (by kernel_rfl) rfl
def f_twin_Write.live : Nat → Option (List Nat) := fun i => match i with
  | 0 => some [0, 1, 2, 3, 8]
  | 1 => some [0, 1, 2, 3, 8]
  | 2 => some [0, 1, 2, 3, 8]
  | 3 => some [0, 1, 2, 3, 8]
  | 4 => some [0, 1, 2, 3, 8]
  | 5 => some [0, 1, 2, 3, 8]
  | 6 => some [0, 1, 2, 3, 8, 9]
  | 7 => some [0, 1, 2, 3, 8, 9, 34]
  | 8 => some [0, 1, 2, 3, 8, 9, 34, 35]
  | 9 => some [0, 1, 2, 3, 8, 9, 10, 34]
  | 10 => some [0, 1, 2, 3, 8, 9, 34]
  | 11 => some [0, 1, 2, 3, 8, 9, 34]
  | 12 => some [0, 1, 2, 3, 8, 9]
  | 13 => some [0, 1, 2, 3, 8, 9]
  | 14 => some [0, 1, 8, 9]
  | 15 => some [0, 1, 8, 9]
  | 16 => some [8]
  | 17 => some [8]
  | _ => none
theorem f_twin_Write.does {W : World} {H : HProp} {R : Ending → HProp → Prop} (a0 a1 a2 a3 : Value) (h : exec prog W tab 62 f_twin_Write.live (codeOf Go.Proofs.Tryz.f152) (bodyQ prog W tab [.cell 8 56] R) (argFr 0 [a0, a1, a2, a3]) [] H) : Does prog W f_twin_Write ⟨[a0, a1, a2, a3]⟩ H R :=
  Does.of_exec tab_ok f_twin_Write.live Go.Proofs.Tryz.func152 rfl rfl rfl (by simp) h
noncomputable abbrev f_sectors_Device_Down.def : Func := Go.Proofs.Tryz.f153
theorem f_sectors_Device_Down.fn : prog.funcs[f_sectors_Device_Down]? = some f_sectors_Device_Down.def := Go.Proofs.Tryz.func153
theorem f_sectors_Device_Down.ok : Callable prog f_sectors_Device_Down := callable_of Go.Proofs.Tryz.func153 (by kernel_rfl) rfl
def f_sectors_Device_Down.live : Nat → Option (List Nat) := fun i => match i with
  | 0 => some [0]
  | 1 => some [2]
  | _ => none
theorem f_sectors_Device_Down.does {W : World} {H : HProp} {R : Ending → HProp → Prop} (a0 : Value) (h : exec prog W tab 7 f_sectors_Device_Down.live (codeOf Go.Proofs.Tryz.f153) (bodyQ prog W tab [.tmp 2] R) (argFr 0 [a0]) [] H) : Does prog W f_sectors_Device_Down ⟨[a0]⟩ H R :=
  Does.of_exec tab_ok f_sectors_Device_Down.live Go.Proofs.Tryz.func153 rfl rfl rfl (by simp) h
noncomputable abbrev f_sectors_Device_Sectors.def : Func := Go.Proofs.Tryz.f154
theorem f_sectors_Device_Sectors.fn : prog.funcs[f_sectors_Device_Sectors]? = some f_sectors_Device_Sectors.def := Go.Proofs.Tryz.func154
theorem f_sectors_Device_Sectors.ok : Callable prog f_sectors_Device_Sectors := callable_of Go.Proofs.Tryz.func154 (by kernel_rfl) rfl
def f_sectors_Device_Sectors.live : Nat → Option (List Nat) := fun i => match i with
  | 0 => some [0]
  | 1 => some [2]
  | _ => none
theorem f_sectors_Device_Sectors.does {W : World} {H : HProp} {R : Ending → HProp → Prop} (a0 : Value) (h : exec prog W tab 9 f_sectors_Device_Sectors.live (codeOf Go.Proofs.Tryz.f154) (bodyQ prog W tab [.tmp 2] R) (argFr 0 [a0]) [] H) : Does prog W f_sectors_Device_Sectors ⟨[a0]⟩ H R :=
  Does.of_exec tab_ok f_sectors_Device_Sectors.live Go.Proofs.Tryz.func154 rfl rfl rfl (by simp) h
noncomputable abbrev f_sectors_Device_Read.def : Func := Go.Proofs.Tryz.f155
theorem f_sectors_Device_Read.fn : prog.funcs[f_sectors_Device_Read]? = some f_sectors_Device_Read.def := Go.Proofs.Tryz.func155
theorem f_sectors_Device_Read.ok : Callable prog f_sectors_Device_Read := callable_of Go.Proofs.Tryz.func155 (by kernel_rfl) rfl
def f_sectors_Device_Read.live : Nat → Option (List Nat) := fun i => match i with
  | 0 => some [0, 3, 4, 5, 28]
  | 1 => some [0, 3, 4, 5, 8, 28]
  | 2 => some [4, 5]
  | 3 => some [0, 3, 4, 5, 13, 28]
  | 4 => some [4, 5]
  | 5 => some [0, 3, 4, 5, 26, 28]
  | 6 => some [0, 3, 4, 5, 7]
  | 7 => some [0, 3, 4, 5, 7, 32]
  | 8 => some [4, 5]
  | 9 => some [4, 5]
  | _ => none
theorem f_sectors_Device_Read.does {W : World} {H : HProp} {R : Ending → HProp → Prop} (a0 a1 : Value) (h : exec prog W tab 40 f_sectors_Device_Read.live (codeOf Go.Proofs.Tryz.f155) (bodyQ prog W tab [.cell 4 162, .cell 5 25] R) (argFr 0 [a0, a1]) [] H) : Does prog W f_sectors_Device_Read ⟨[a0, a1]⟩ H R :=
  Does.of_exec tab_ok f_sectors_Device_Read.live Go.Proofs.Tryz.func155 rfl rfl rfl (by simp) h
def f_sectors_Device_Read.plan3 : List Nat := [0, 1, 2, 3, 4, 5, 6, 7, 8]
def f_sectors_Device_Read.last3 : List Nat := [6, 7, 8]
noncomputable abbrev f_twin_must.def : Func := Go.Proofs.Tryz.f156
theorem f_twin_must.fn : prog.funcs[f_twin_must]? = some f_twin_must.def := Go.Proofs.Tryz.func156
theorem f_twin_must.ok : Callable prog f_twin_must := callable_of Go.Proofs.Tryz.func156 (by kernel_rfl) rfl
def f_twin_must.live : Nat → Option (List Nat) := fun i => match i with
  | 0 => some []
  | _ => none
theorem f_twin_must.does {W : World} {H : HProp} {R : Ending → HProp → Prop} (a0 : Value) (h : exec prog W tab 6 f_twin_must.live (codeOf Go.Proofs.Tryz.f156) (bodyQ prog W tab [] R) (argFr 0 [a0]) [] H) : Does prog W f_twin_must ⟨[a0]⟩ H R :=
  Does.of_exec tab_ok f_twin_must.live Go.Proofs.Tryz.func156 rfl rfl rfl (by simp) h
noncomputable abbrev f_slices_ContainsFunc_S_byte_byte.def : Func := Go.Proofs.Tryz.f157
theorem f_slices_ContainsFunc_S_byte_byte.fn : prog.funcs[f_slices_ContainsFunc_S_byte_byte]? = some f_slices_ContainsFunc_S_byte_byte.def := Go.Proofs.Tryz.func157
theorem f_slices_ContainsFunc_S_byte_byte.ok : Callable prog f_slices_ContainsFunc_S_byte_byte := callable_of Go.Proofs.Tryz.func157 (by kernel_rfl) rfl
def f_slices_ContainsFunc_S_byte_byte.live : Nat → Option (List Nat) := fun i => match i with
  | 0 => some [0, 1]
  | 1 => some [4]
  | _ => none
theorem f_slices_ContainsFunc_S_byte_byte.does {W : World} {H : HProp} {R : Ending → HProp → Prop} (a0 a1 : Value) (h : exec prog W tab 9 f_slices_ContainsFunc_S_byte_byte.live (codeOf Go.Proofs.Tryz.f157) (bodyQ prog W tab [.tmp 4] R) (argFr 0 [a0, a1]) [] H) : Does prog W f_slices_ContainsFunc_S_byte_byte ⟨[a0, a1]⟩ H R :=
  Does.of_exec tab_ok f_slices_ContainsFunc_S_byte_byte.live Go.Proofs.Tryz.func157 rfl rfl rfl (by simp) h
noncomputable abbrev f_page_zeros_1.def : Func := Go.Proofs.Tryz.f158
theorem f_page_zeros_1.fn : prog.funcs[f_page_zeros_1]? = some f_page_zeros_1.def := Go.Proofs.Tryz.func158
theorem f_page_zeros_1.ok : Callable prog f_page_zeros_1 := callable_of Go.Proofs.Tryz.func158 (by kernel_rfl) rfl
def f_page_zeros_1.live : Nat → Option (List Nat) := fun i => match i with
  | 0 => some [0]
  | 1 => some [2]
  | _ => none
theorem f_page_zeros_1.does {W : World} {H : HProp} {R : Ending → HProp → Prop} (a0 : Value) (h : exec prog W tab 5 f_page_zeros_1.live (codeOf Go.Proofs.Tryz.f158) (bodyQ prog W tab [.tmp 2] R) (argFr 0 [a0]) [] H) : Does prog W f_page_zeros_1 ⟨[a0]⟩ H R :=
  Does.of_exec tab_ok f_page_zeros_1.live Go.Proofs.Tryz.func158 rfl rfl rfl (by simp) h
noncomputable abbrev f_field_place.def : Func := Go.Proofs.Tryz.f159
theorem f_field_place.fn : prog.funcs[f_field_place]? = some f_field_place.def := Go.Proofs.Tryz.func159
theorem f_field_place.ok : Callable prog f_field_place := callable_of Go.Proofs.Tryz.func159 (by kernel_rfl) rfl
def f_field_place.live : Nat → Option (List Nat) := fun i => match i with
  | 0 => some [0, 1, 2]
  | 1 => some [6]
  | _ => none
theorem f_field_place.does {W : World} {H : HProp} {R : Ending → HProp → Prop} (a0 a1 a2 : Value) (h : exec prog W tab 29 f_field_place.live (codeOf Go.Proofs.Tryz.f159) (bodyQ prog W tab [.tmp 6] R) (argFr 0 [a0, a1, a2]) [] H) : Does prog W f_field_place ⟨[a0, a1, a2]⟩ H R :=
  Does.of_exec tab_ok f_field_place.live Go.Proofs.Tryz.func159 rfl rfl rfl (by simp) h
noncomputable abbrev f_field_Sum.def : Func := Go.Proofs.Tryz.f160
theorem f_field_Sum.fn : prog.funcs[f_field_Sum]? = some f_field_Sum.def := Go.Proofs.Tryz.func160
theorem f_field_Sum.ok : Callable prog f_field_Sum := callable_of Go.Proofs.Tryz.func160 (by kernel_rfl) rfl
def f_field_Sum.live : Nat → Option (List Nat) := fun i => match i with
  | 0 => some [0]
  | 1 => some [0, 3]
  | 2 => some [3, 8, 9, 10]
  | 3 => some [3, 8, 9, 10, 11]
  | 4 => some [3, 5, 8, 9, 10]
  | 5 => some [3, 8, 9, 10, 14, 15, 16]
  | 6 => some [3, 8, 9, 10, 14, 15, 16, 17]
  | 7 => some [3, 7, 8, 9, 10, 14, 15, 16]
  | 8 => some [3, 8, 9, 10, 14, 15, 16]
  | 9 => some [3, 8, 9, 10, 14, 15, 16]
  | 10 => some [3, 8, 9, 10, 14, 15, 16]
  | 11 => some [3, 8, 9, 10, 14, 15, 16]
  | 12 => some [3, 8, 9, 10]
  | 13 => some [2]
  | _ => none
theorem f_field_Sum.does {W : World} {H : HProp} {R : Ending → HProp → Prop} (a0 : Value) (h : exec prog W tab 42 f_field_Sum.live (codeOf Go.Proofs.Tryz.f160) (bodyQ prog W tab [.tmp 2] R) (argFr 0 [a0]) [] H) : Does prog W f_field_Sum ⟨[a0]⟩ H R :=
  Does.of_exec tab_ok f_field_Sum.live Go.Proofs.Tryz.func160 rfl rfl rfl (by simp) h
noncomputable abbrev f_field_Put.def : Func := Go.Proofs.Tryz.f161
theorem f_field_Put.fn : prog.funcs[f_field_Put]? = some f_field_Put.def := Go.Proofs.Tryz.func161
theorem f_field_Put.ok : Callable prog f_field_Put := callable_of Go.Proofs.Tryz.func161 (by kernel_rfl) rfl
def f_field_Put.live : Nat → Option (List Nat) := fun i => match i with
  | 0 => some [0, 1, 2, 3]
  | 1 => some [0, 1, 2, 3, 15]
  | 2 => some [8]
  | 3 => some [0, 1, 2, 3, 24]
  | 4 => some [8]
  | 5 => some [0, 1, 3, 25, 26]
  | 6 => some [0, 1, 3, 25, 26, 27]
  | 7 => some [0, 1, 3, 9, 25, 26]
  | 8 => some [0, 1, 3, 25, 26]
  | 9 => some [0, 1, 3, 25, 26]
  | 10 => some [8]
  | _ => none
theorem f_field_Put.does {W : World} {H : HProp} {R : Ending → HProp → Prop} (a0 a1 a2 a3 : Value) (h : exec prog W tab 40 f_field_Put.live (codeOf Go.Proofs.Tryz.f161) (bodyQ prog W tab [.tmp 8] R) (argFr 0 [a0, a1, a2, a3]) [] H) : Does prog W f_field_Put ⟨[a0, a1, a2, a3]⟩ H R :=
  Does.of_exec tab_ok f_field_Put.live Go.Proofs.Tryz.func161 rfl rfl rfl (by simp) h
noncomputable abbrev f_slices_order2Ordered_int.def : Func := Go.Proofs.Tryz.f162
theorem f_slices_order2Ordered_int.fn : prog.funcs[f_slices_order2Ordered_int]? = some f_slices_order2Ordered_int.def := Go.Proofs.Tryz.func162
theorem f_slices_order2Ordered_int.ok : Callable prog f_slices_order2Ordered_int := callable_of Go.Proofs.Tryz.func162 (by kernel_rfl) rfl
def f_slices_order2Ordered_int.live : Nat → Option (List Nat) := fun i => match i with
  | 0 => some [0, 1, 2, 3]
  | 1 => some [1, 2, 3, 18]
  | 2 => some [1, 2]
  | 3 => some [8, 9]
  | 4 => some [8, 9]
  | _ => none
theorem f_slices_order2Ordered_int.does {W : World} {H : HProp} {R : Ending → HProp → Prop} (a0 a1 a2 a3 : Value) (h : exec prog W tab 28 f_slices_order2Ordered_int.live (codeOf Go.Proofs.Tryz.f162) (bodyQ prog W tab [.tmp 8, .tmp 9] R) (argFr 0 [a0, a1, a2, a3]) [] H) : Does prog W f_slices_order2Ordered_int ⟨[a0, a1, a2, a3]⟩ H R :=
  Does.of_exec tab_ok f_slices_order2Ordered_int.live Go.Proofs.Tryz.func162 rfl rfl rfl (by simp) h
def f_slices_order2Ordered_int.plan1 : List Nat := [0, 1, 2, 3, 4, 5, 6, 7, 8]
def f_slices_order2Ordered_int.last1 : List Nat := [8]
noncomputable abbrev f_log_caught.def : Func := Go.Proofs.Tryz.f163
theorem f_log_caught.fn : prog.funcs[f_log_caught]? = some f_log_caught.def := Go.Proofs.Tryz.func163
theorem f_log_caught.ok : Callable prog f_log_caught := callable_of Go.Proofs.Tryz.func163 (by kernel_rfl) rfl
def f_log_caught.live : Nat → Option (List Nat) := fun i => match i with
  | 0 => some [1, 2, 4]
  | 1 => some [1, 4]
  | 2 => some [4]
  | 3 => some [4]
  | _ => none
theorem f_log_caught.does {W : World} {H : HProp} {R : Ending → HProp → Prop} (a0 a1 : Value) (h : exec prog W tab 8 f_log_caught.live (codeOf Go.Proofs.Tryz.f163) (bodyQ prog W tab [.cell 4 56] R) (argFr 0 [a0, a1]) [] H) : Does prog W f_log_caught ⟨[a0, a1]⟩ H R :=
  Does.of_exec tab_ok f_log_caught.live Go.Proofs.Tryz.func163 rfl rfl rfl (by simp) h
noncomputable abbrev f_log_Log_Force_1.def : Func := Go.Proofs.Tryz.f164
theorem f_log_Log_Force_1.fn : prog.funcs[f_log_Log_Force_1]? = some f_log_Log_Force_1.def := Go.Proofs.Tryz.func164
theorem f_log_Log_Force_1.ok : Callable prog f_log_Log_Force_1 := callable_of Go.Proofs.Tryz.func164 (by kernel_rfl) rfl
def f_log_Log_Force_1.live : Nat → Option (List Nat) := fun i => match i with
  | 0 => some [0, 1, 2]
  | 1 => some [0, 1, 2, 10]
  | 2 => some [0, 1, 2]
  | 3 => some [0, 1, 2]
  | 4 => some []
  | _ => none
theorem f_log_Log_Force_1.does {W : World} {H : HProp} {R : Ending → HProp → Prop} (a0 a1 : Value) (h : exec prog W tab 47 f_log_Log_Force_1.live (codeOf Go.Proofs.Tryz.f164) (bodyQ prog W tab [] R) (argFr 0 [a0, a1]) [] H) : Does prog W f_log_Log_Force_1 ⟨[a0, a1]⟩ H R :=
  Does.of_exec tab_ok f_log_Log_Force_1.live Go.Proofs.Tryz.func164 rfl rfl rfl (by simp) h
def f_log_Log_Force_1.plan3 : List Nat := [0, 1, 2, 3, 4, 5, 6, 7, 8, 9, 10, 11, 12, 13, 14, 15, 16, 17, 18, 19, 20, 21, 22, 23, 24, 25, 26, 27]
def f_log_Log_Force_1.last3 : List Nat := [26, 27]
noncomputable abbrev f_log_asked.def : Func := Go.Proofs.Tryz.f165
theorem f_log_asked.fn : prog.funcs[f_log_asked]? = some f_log_asked.def := Go.Proofs.Tryz.func165
theorem f_log_asked.ok : Callable prog f_log_asked := callable_of Go.Proofs.Tryz.func165 (by kernel_rfl) rfl
def f_log_asked.live : Nat → Option (List Nat) := fun i => match i with
  | 0 => some [0, 3]
  | 1 => some []
  | _ => none
theorem f_log_asked.does {W : World} {H : HProp} {R : Ending → HProp → Prop} (a0 : Value) (h : exec prog W tab 7 f_log_asked.live (codeOf Go.Proofs.Tryz.f165) (bodyQ prog W tab [] R) (argFr 0 [a0]) [] H) : Does prog W f_log_asked ⟨[a0]⟩ H R :=
  Does.of_exec tab_ok f_log_asked.live Go.Proofs.Tryz.func165 rfl rfl rfl (by simp) h
noncomputable abbrev f_sectors_Device_Write.def : Func := Go.Proofs.Tryz.f166
theorem f_sectors_Device_Write.fn : prog.funcs[f_sectors_Device_Write]? = some f_sectors_Device_Write.def := Go.Proofs.Tryz.func166
theorem f_sectors_Device_Write.ok : Callable prog f_sectors_Device_Write := callable_of Go.Proofs.Tryz.func166 (by kernel_rfl) rfl
def f_sectors_Device_Write.live : Nat → Option (List Nat) := fun i => match i with
  | 0 => some [0, 1, 2]
  | 1 => some [0, 1, 2, 8]
  | 2 => some [6]
  | 3 => some [0, 1, 2, 13]
  | 4 => some [6]
  | 5 => some [0, 1, 2, 22]
  | 6 => some [6]
  | 7 => some [0, 1, 2, 7]
  | 8 => some [0, 7]
  | 9 => some [0, 41]
  | 10 => some [6]
  | 11 => some [6]
  | _ => none
theorem f_sectors_Device_Write.does {W : World} {H : HProp} {R : Ending → HProp → Prop} (a0 a1 a2 : Value) (h : exec prog W tab 48 f_sectors_Device_Write.live (codeOf Go.Proofs.Tryz.f166) (bodyQ prog W tab [.tmp 6] R) (argFr 0 [a0, a1, a2]) [] H) : Does prog W f_sectors_Device_Write ⟨[a0, a1, a2]⟩ H R :=
  Does.of_exec tab_ok f_sectors_Device_Write.live Go.Proofs.Tryz.func166 rfl rfl rfl (by simp) h
def f_sectors_Device_Write.plan8 : List Nat := [0, 1, 2, 3, 4, 5, 6, 7, 8, 9, 10, 11, 12, 13]
def f_sectors_Device_Write.last8 : List Nat := [11, 12, 13]
noncomputable abbrev f_log_laid.def : Func := Go.Proofs.Tryz.f167
theorem f_log_laid.fn : prog.funcs[f_log_laid]? = some f_log_laid.def := Go.Proofs.Tryz.func167
theorem f_log_laid.ok : Callable prog f_log_laid := callable_of Go.Proofs.Tryz.func167 (by kernel_rfl) rfl
def f_log_laid.live : Nat → Option (List Nat) := fun i => match i with
  | 0 => some [0, 1]
  | 1 => some [0, 1, 5]
  | 2 => some [0, 1, 5]
  | 3 => some [1, 5]
  | 4 => some [1, 5]
  | 5 => some [5]
  | 6 => some [5]
  | 7 => some [4]
  | _ => none
theorem f_log_laid.does {W : World} {H : HProp} {R : Ending → HProp → Prop} (a0 a1 : Value) (h : exec prog W tab 25 f_log_laid.live (codeOf Go.Proofs.Tryz.f167) (bodyQ prog W tab [.tmp 4] R) (argFr 0 [a0, a1]) [] H) : Does prog W f_log_laid ⟨[a0, a1]⟩ H R :=
  Does.of_exec tab_ok f_log_laid.live Go.Proofs.Tryz.func167 rfl rfl rfl (by simp) h
noncomputable abbrev f_sectors_Device_Sync.def : Func := Go.Proofs.Tryz.f168
theorem f_sectors_Device_Sync.fn : prog.funcs[f_sectors_Device_Sync]? = some f_sectors_Device_Sync.def := Go.Proofs.Tryz.func168
theorem f_sectors_Device_Sync.ok : Callable prog f_sectors_Device_Sync := callable_of Go.Proofs.Tryz.func168 (by kernel_rfl) rfl
def f_sectors_Device_Sync.live : Nat → Option (List Nat) := fun i => match i with
  | 0 => some [0]
  | 1 => some [0, 8]
  | 2 => some [2]
  | 3 => some [0, 10]
  | 4 => some [2]
  | 5 => some [0, 20, 21, 22]
  | 6 => some [0, 20, 21, 22, 23]
  | 7 => some [0, 4, 20, 21, 22]
  | 8 => some [0, 20, 21, 22]
  | 9 => some [0, 20, 21, 22]
  | 10 => some []
  | 11 => some [2]
  | _ => none
theorem f_sectors_Device_Sync.does {W : World} {H : HProp} {R : Ending → HProp → Prop} (a0 : Value) (h : exec prog W tab 37 f_sectors_Device_Sync.live (codeOf Go.Proofs.Tryz.f168) (bodyQ prog W tab [.tmp 2] R) (argFr 0 [a0]) [] H) : Does prog W f_sectors_Device_Sync ⟨[a0]⟩ H R :=
  Does.of_exec tab_ok f_sectors_Device_Sync.live Go.Proofs.Tryz.func168 rfl rfl rfl (by simp) h
def f_sectors_Device_Sync.plan8 : List Nat := [0, 1, 2, 4, 5, 3, 6]
def f_sectors_Device_Sync.last8 : List Nat := [6]
noncomputable abbrev f_twin_Write_1.def : Func := Go.Proofs.Tryz.f169
theorem f_twin_Write_1.fn : prog.funcs[f_twin_Write_1]? = some f_twin_Write_1.def := Go.Proofs.Tryz.func169
theorem f_twin_Write_1.ok : Callable prog f_twin_Write_1 := callable_of Go.Proofs.Tryz.func169 (by kernel_rfl) rfl
def f_twin_Write_1.live : Nat → Option (List Nat) := fun i => match i with
  | 0 => some []
  | _ => none
theorem f_twin_Write_1.does {W : World} {H : HProp} {R : Ending → HProp → Prop} (a0 : Value) (h : exec prog W tab 3 f_twin_Write_1.live (codeOf Go.Proofs.Tryz.f169) (bodyQ prog W tab [] R) (argFr 0 [a0]) [] H) : Does prog W f_twin_Write_1 ⟨[a0]⟩ H R :=
  Does.of_exec tab_ok f_twin_Write_1.live Go.Proofs.Tryz.func169 rfl rfl rfl (by simp) h
noncomputable abbrev f_twin_may.def : Func := Go.Proofs.Tryz.f170
theorem f_twin_may.fn : prog.funcs[f_twin_may]? = some f_twin_may.def := Go.Proofs.Tryz.func170
theorem f_twin_may.ok : Callable prog f_twin_may := callable_of Go.Proofs.Tryz.func170 (by kernel_rfl) rfl
def f_twin_may.live : Nat → Option (List Nat) := fun i => match i with
  | 0 => some [0, 1, 2]
  | 1 => some [6]
  | _ => none
theorem f_twin_may.does {W : World} {H : HProp} {R : Ending → HProp → Prop} (a0 a1 a2 : Value) (h : exec prog W tab 23 f_twin_may.live (codeOf Go.Proofs.Tryz.f170) (bodyQ prog W tab [.tmp 6] R) (argFr 0 [a0, a1, a2]) [] H) : Does prog W f_twin_may ⟨[a0, a1, a2]⟩ H R :=
  Does.of_exec tab_ok f_twin_may.live Go.Proofs.Tryz.func170 rfl rfl rfl (by simp) h
noncomputable abbrev f_twin_put.def : Func := Go.Proofs.Tryz.f171
theorem f_twin_put.fn : prog.funcs[f_twin_put]? = some f_twin_put.def := Go.Proofs.Tryz.func171
theorem f_twin_put.ok : Callable prog f_twin_put := callable_of Go.Proofs.Tryz.func171 (by kernel_rfl) rfl
def f_twin_put.live : Nat → Option (List Nat) := fun i => match i with
  | 0 => some [0, 1, 2, 6]
  | 1 => some [0, 1, 2, 6, 11]
  | 2 => some [0, 1, 2, 6]
  | 3 => some [0, 1, 2, 6]
  | 4 => some []
  | _ => none
theorem f_twin_put.does {W : World} {H : HProp} {R : Ending → HProp → Prop} (a0 a1 a2 : Value) (h : exec prog W tab 30 f_twin_put.live (codeOf Go.Proofs.Tryz.f171) (bodyQ prog W tab [] R) (argFr 0 [a0, a1, a2]) [] H) : Does prog W f_twin_put ⟨[a0, a1, a2]⟩ H R :=
  Does.of_exec tab_ok f_twin_put.live Go.Proofs.Tryz.func171 rfl rfl rfl (by simp) h
noncomputable abbrev f_slices_Backward_S_api_Pending_api_Pending.def : Func := Go.Proofs.Tryz.f172
theorem f_slices_Backward_S_api_Pending_api_Pending.fn : prog.funcs[f_slices_Backward_S_api_Pending_api_Pending]? = some f_slices_Backward_S_api_Pending_api_Pending.def := Go.Proofs.Tryz.func172
theorem f_slices_Backward_S_api_Pending_api_Pending.ok : Callable prog f_slices_Backward_S_api_Pending_api_Pending := callable_of Go.Proofs.Tryz.func172 (by kernel_rfl) rfl
def f_slices_Backward_S_api_Pending_api_Pending.live : Nat → Option (List Nat) := fun i => match i with
  | 0 => some [1]
  | 1 => some [2]
  | _ => none
theorem f_slices_Backward_S_api_Pending_api_Pending.does {W : World} {H : HProp} {R : Ending → HProp → Prop} (a0 : Value) (h : exec prog W tab 4 f_slices_Backward_S_api_Pending_api_Pending.live (codeOf Go.Proofs.Tryz.f172) (bodyQ prog W tab [.tmp 2] R) (argFr 0 [a0]) [] H) : Does prog W f_slices_Backward_S_api_Pending_api_Pending ⟨[a0]⟩ H R :=
  Does.of_exec tab_ok f_slices_Backward_S_api_Pending_api_Pending.live Go.Proofs.Tryz.func172 rfl rfl rfl (by simp) h
noncomputable abbrev f_bytes_Clone.def : Func := Go.Proofs.Tryz.f173
theorem f_bytes_Clone.fn : prog.funcs[f_bytes_Clone]? = some f_bytes_Clone.def := Go.Proofs.Tryz.func173
theorem f_bytes_Clone.ok : Callable prog f_bytes_Clone := callable_of Go.Proofs.Tryz.func173 (by kernel_rfl) rfl
def f_bytes_Clone.live : Nat → Option (List Nat) := fun i => match i with
  | 0 => some [0]
  | 1 => some [0, 4]
  | 2 => some [2]
  | 3 => some [2]
  | _ => none
theorem f_bytes_Clone.does {W : World} {H : HProp} {R : Ending → HProp → Prop} (a0 : Value) (h : exec prog W tab 8 f_bytes_Clone.live (codeOf Go.Proofs.Tryz.f173) (bodyQ prog W tab [.tmp 2] R) (argFr 0 [a0]) [] H) : Does prog W f_bytes_Clone ⟨[a0]⟩ H R :=
  Does.of_exec tab_ok f_bytes_Clone.live Go.Proofs.Tryz.func173 rfl rfl rfl (by simp) h
noncomputable abbrev f_sectors_Device_sector.def : Func := Go.Proofs.Tryz.f174
theorem f_sectors_Device_sector.fn : prog.funcs[f_sectors_Device_sector]? = some f_sectors_Device_sector.def := Go.Proofs.Tryz.func174
theorem f_sectors_Device_sector.ok : Callable prog f_sectors_Device_sector := callable_of Go.Proofs.Tryz.func174 (by kernel_rfl) rfl
def f_sectors_Device_sector.live : Nat → Option (List Nat) := fun i => match i with
  | 0 => some [0, 1]
  | 1 => some [4]
  | _ => none
theorem f_sectors_Device_sector.does {W : World} {H : HProp} {R : Ending → HProp → Prop} (a0 a1 : Value) (h : exec prog W tab 15 f_sectors_Device_sector.live (codeOf Go.Proofs.Tryz.f174) (bodyQ prog W tab [.tmp 4] R) (argFr 0 [a0, a1]) [] H) : Does prog W f_sectors_Device_sector ⟨[a0, a1]⟩ H R :=
  Does.of_exec tab_ok f_sectors_Device_sector.live Go.Proofs.Tryz.func174 rfl rfl rfl (by simp) h
noncomputable abbrev f_slices_IndexFunc_S_byte_byte.def : Func := Go.Proofs.Tryz.f175
theorem f_slices_IndexFunc_S_byte_byte.fn : prog.funcs[f_slices_IndexFunc_S_byte_byte]? = some f_slices_IndexFunc_S_byte_byte.def := Go.Proofs.Tryz.func175
theorem f_slices_IndexFunc_S_byte_byte.ok : Callable prog f_slices_IndexFunc_S_byte_byte := callable_of Go.Proofs.Tryz.func175 (by kernel_rfl) rfl
def f_slices_IndexFunc_S_byte_byte.live : Nat → Option (List Nat) := fun i => match i with
  | 0 => some [0, 1]
  | 1 => some [0, 1, 7, 8]
  | 2 => some [0, 1, 7, 8, 9]
  | 3 => some [0, 1, 5, 7, 8]
  | 4 => some [0, 1, 5, 7, 8, 16]
  | 5 => some [4]
  | 6 => some [0, 1, 7, 8]
  | 7 => some [4]
  | _ => none
theorem f_slices_IndexFunc_S_byte_byte.does {W : World} {H : HProp} {R : Ending → HProp → Prop} (a0 a1 : Value) (h : exec prog W tab 19 f_slices_IndexFunc_S_byte_byte.live (codeOf Go.Proofs.Tryz.f175) (bodyQ prog W tab [.tmp 4] R) (argFr 0 [a0, a1]) [] H) : Does prog W f_slices_IndexFunc_S_byte_byte ⟨[a0, a1]⟩ H R :=
  Does.of_exec tab_ok f_slices_IndexFunc_S_byte_byte.live Go.Proofs.Tryz.func175 rfl rfl rfl (by simp) h
noncomputable abbrev f_log_caught_1.def : Func := Go.Proofs.Tryz.f176
theorem f_log_caught_1.fn : prog.funcs[f_log_caught_1]? = some f_log_caught_1.def := Go.Proofs.Tryz.func176
theorem f_log_caught_1.ok : Callable prog f_log_caught_1 := callable_of Go.Proofs.Tryz.func176 (by kernel_rfl) rfl
def f_log_caught_1.live : Nat → Option (List Nat) := fun i => match i with
  | 0 => some [0, 1, 2]
  | 1 => some [0, 1, 2, 7]
  | 2 => some [0, 1, 2, 3, 4]
  | 3 => some [0, 1, 2, 3, 14]
  | 4 => some [0, 1, 3]
  | 5 => some []
  | _ => none
theorem f_log_caught_1.does {W : World} {H : HProp} {R : Ending → HProp → Prop} (a0 a1 : Value) (h : exec prog W tab 25 f_log_caught_1.live (codeOf Go.Proofs.Tryz.f176) (bodyQ prog W tab [] R) (argFr 0 [a0, a1]) [] H) : Does prog W f_log_caught_1 ⟨[a0, a1]⟩ H R :=
  Does.of_exec tab_ok f_log_caught_1.live Go.Proofs.Tryz.func176 rfl rfl rfl (by simp) h
noncomputable abbrev f_sectors_Device_crashes.def : Func := Go.Proofs.Tryz.f177
theorem f_sectors_Device_crashes.fn : prog.funcs[f_sectors_Device_crashes]? = some f_sectors_Device_crashes.def := Go.Proofs.Tryz.func177
theorem f_sectors_Device_crashes.ok : Callable prog f_sectors_Device_crashes := callable_of Go.Proofs.Tryz.func177 (by kernel_rfl) rfl
def f_sectors_Device_crashes.live : Nat → Option (List Nat) := fun i => match i with
  | 0 => some [0]
  | 1 => some [0]
  | 2 => some [0, 14]
  | 3 => some [2]
  | 4 => some [0]
  | 5 => some [2]
  | _ => none
theorem f_sectors_Device_crashes.does {W : World} {H : HProp} {R : Ending → HProp → Prop} (a0 : Value) (h : exec prog W tab 27 f_sectors_Device_crashes.live (codeOf Go.Proofs.Tryz.f177) (bodyQ prog W tab [.tmp 2] R) (argFr 0 [a0]) [] H) : Does prog W f_sectors_Device_crashes ⟨[a0]⟩ H R :=
  Does.of_exec tab_ok f_sectors_Device_crashes.live Go.Proofs.Tryz.func177 rfl rfl rfl (by simp) h
noncomputable abbrev f_sectors_Device_fall.def : Func := Go.Proofs.Tryz.f178
theorem f_sectors_Device_fall.fn : prog.funcs[f_sectors_Device_fall]? = some f_sectors_Device_fall.def := Go.Proofs.Tryz.func178
theorem f_sectors_Device_fall.ok : Callable prog f_sectors_Device_fall := callable_of Go.Proofs.Tryz.func178 (by kernel_rfl) rfl
def f_sectors_Device_fall.live : Nat → Option (List Nat) := fun i => match i with
  | 0 => some [0, 3]
  | 1 => some [0, 3, 10, 11, 12]
  | 2 => some [0, 3, 10, 11, 12, 13]
  | 3 => some [0, 3, 5, 6, 10, 11, 12]
  | 4 => some [0, 3, 5, 6, 10, 11, 12, 17]
  | 5 => some [0, 3, 10, 11, 12]
  | 6 => some [0, 3, 6, 10, 11, 12, 28]
  | 7 => some [0, 3, 10, 11, 12]
  | 8 => some [0, 3, 10, 11, 12]
  | 9 => some [0]
  | 10 => some [0]
  | 11 => some [0]
  | 12 => some []
  | 13 => some [4]
  | _ => none
theorem f_sectors_Device_fall.does {W : World} {H : HProp} {R : Ending → HProp → Prop} (a0 a1 : Value) (h : exec prog W tab 59 f_sectors_Device_fall.live (codeOf Go.Proofs.Tryz.f178) (bodyQ prog W tab [.tmp 4] R) (argFr 0 [a0, a1]) [] H) : Does prog W f_sectors_Device_fall ⟨[a0, a1]⟩ H R :=
  Does.of_exec tab_ok f_sectors_Device_fall.live Go.Proofs.Tryz.func178 rfl rfl rfl (by simp) h
def f_sectors_Device_fall.plan5 : List Nat := [0, 1, 2, 4, 5, 3, 6]
def f_sectors_Device_fall.last5 : List Nat := [6]
def f_sectors_Device_fall.plan7 : List Nat := [0, 1, 2, 4, 5, 6, 7, 8, 9, 10, 3, 11]
def f_sectors_Device_fall.last7 : List Nat := [11]
noncomputable abbrev f_slices_Backward_S_api_Pending_api_Pending_1.def : Func := Go.Proofs.Tryz.f179
theorem f_slices_Backward_S_api_Pending_api_Pending_1.fn : prog.funcs[f_slices_Backward_S_api_Pending_api_Pending_1]? = some f_slices_Backward_S_api_Pending_api_Pending_1.def := Go.Proofs.Tryz.func179
theorem f_slices_Backward_S_api_Pending_api_Pending_1.ok : Callable prog f_slices_Backward_S_api_Pending_api_Pending_1 := callable_of Go.Proofs.Tryz.func179 (by kernel_rfl) rfl
def f_slices_Backward_S_api_Pending_api_Pending_1.live : Nat → Option (List Nat) := fun i => match i with
  | 0 => some [0, 1, 3]
  | 1 => some [0, 1, 3, 8]
  | 2 => some [0, 1, 3]
  | 3 => some [0, 1, 3, 18]
  | _ => none
theorem f_slices_Backward_S_api_Pending_api_Pending_1.does {W : World} {H : HProp} {R : Ending → HProp → Prop} (a0 a1 : Value) (h : exec prog W tab 19 f_slices_Backward_S_api_Pending_api_Pending_1.live (codeOf Go.Proofs.Tryz.f179) (bodyQ prog W tab [] R) (argFr 0 [a0, a1]) [] H) : Does prog W f_slices_Backward_S_api_Pending_api_Pending_1 ⟨[a0, a1]⟩ H R :=
  Does.of_exec tab_ok f_slices_Backward_S_api_Pending_api_Pending_1.live Go.Proofs.Tryz.func179 rfl rfl rfl (by simp) h
noncomputable abbrev f_sectors_kept.def : Func := Go.Proofs.Tryz.f180
theorem f_sectors_kept.fn : prog.funcs[f_sectors_kept]? = some f_sectors_kept.def := Go.Proofs.Tryz.func180
theorem f_sectors_kept.ok : Callable prog f_sectors_kept := callable_of Go.Proofs.Tryz.func180 (by kernel_rfl) rfl
def f_sectors_kept.live : Nat → Option (List Nat) := fun i => match i with
  | 0 => some [1, 2]
  | 1 => some [4]
  | _ => none
theorem f_sectors_kept.does {W : World} {H : HProp} {R : Ending → HProp → Prop} (a0 a1 : Value) (h : exec prog W tab 24 f_sectors_kept.live (codeOf Go.Proofs.Tryz.f180) (bodyQ prog W tab [.tmp 4] R) (argFr 0 [a0, a1]) [] H) : Does prog W f_sectors_kept ⟨[a0, a1]⟩ H R :=
  Does.of_exec tab_ok f_sectors_kept.live Go.Proofs.Tryz.func180 rfl rfl rfl (by simp) h
noncomputable abbrev f_api_Fault_Unwrap.def : Func := Go.Proofs.Tryz.f202
theorem f_api_Fault_Unwrap.fn : prog.funcs[f_api_Fault_Unwrap]? = some f_api_Fault_Unwrap.def := Go.Proofs.Tryz.func202
theorem f_api_Fault_Unwrap.ok : Callable prog f_api_Fault_Unwrap := callable_of Go.Proofs.Tryz.func202 (by kernel_rfl) rfl
def f_api_Fault_Unwrap.live : Nat → Option (List Nat) := fun i => match i with
  | 0 => some [0]
  | 1 => some [2]
  | _ => none
theorem f_api_Fault_Unwrap.does {W : World} {H : HProp} {R : Ending → HProp → Prop} (a0 : Value) (h : exec prog W tab 7 f_api_Fault_Unwrap.live (codeOf Go.Proofs.Tryz.f202) (bodyQ prog W tab [.tmp 2] R) (argFr 0 [a0]) [] H) : Does prog W f_api_Fault_Unwrap ⟨[a0]⟩ H R :=
  Does.of_exec tab_ok f_api_Fault_Unwrap.live Go.Proofs.Tryz.func202 rfl rfl rfl (by simp) h
end Go.Proofs.YtacpnjlijjgbmaaGreatDoor
