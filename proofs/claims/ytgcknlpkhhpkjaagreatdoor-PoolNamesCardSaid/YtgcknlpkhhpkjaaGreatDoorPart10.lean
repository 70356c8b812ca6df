/- The numbers of the functions and types by name, the type table, the live slots, the plans of the regions that draw: written by a program (tools/gen.py). No condition. -/
import Derived.Test.YtgcknlpkhhpkjaaGreatDoorProg
import Derived.KernelRfl
import Derived.Test.YtgcknlpkhhpkjaaGreatDoorPart7
namespace Go.Proofs.YtgcknlpkhhpkjaaGreatDoor
open Go Go.SL
abbrev f_quotalaw09_PoolNames : Nat := 3
abbrev f_quotalaw09_awake : Nat := 14
abbrev f_quotalaw09_num : Nat := 17
abbrev f_pool_Pool_Unpin : Nat := 18
abbrev f_pool_Pool_Evict : Nat := 19
abbrev f_api_Code : Nat := 20
abbrev f_master_Home : Nat := 21
abbrev f_twin_Read : Nat := 22
abbrev f_page_Decode : Nat := 23
abbrev f_pool_Pool_Held : Nat := 27
abbrev f_pool_Pool_Dirty : Nat := 28
abbrev f_pool_Pool_Get : Nat := 30
abbrev f_sectors_Device_Arm : Nat := 35
abbrev f_sectors_Device_Down : Nat := 36
abbrev f_sectors_Device_Crash : Nat := 37
abbrev f_sectors_Device_Up : Nat := 38
abbrev f_twin_Finish : Nat := 39
abbrev f_sectors_Device_Image : Nat := 42
abbrev f_log_Log_Last : Nat := 47
abbrev f_sectors_New : Nat := 60
abbrev f_log_Open : Nat := 61
abbrev f_pool_New : Nat := 62
abbrev f_log_Log_Append : Nat := 63
abbrev f_pool_Pool_Put : Nat := 64
abbrev f_log_Log_Forced : Nat := 65
abbrev f_master_Need : Nat := 67
abbrev f_master_Log : Nat := 68
abbrev f_pool_Pool_Pin : Nat := 69
abbrev f_pool_Pool_Flush : Nat := 72
abbrev f_log_Log_Force : Nat := 73
abbrev f_pool_Pool_place : Nat := 74
abbrev f_pool_Pool_there : Nat := 75
abbrev f_pool_Pool_leave : Nat := 76
abbrev f_pool_result : Nat := 77
abbrev f_errors_As : Nat := 78
abbrev f_master_may : Nat := 79
abbrev f_twin_Read_1 : Nat := 80
abbrev f_twin_told : Nat := 81
abbrev f_twin_running : Nat := 82
abbrev f_twin_need : Nat := 83
abbrev f_twin_there : Nat := 84
abbrev f_twin_get : Nat := 85
abbrev f_page_in : Nat := 86
abbrev f_page_zeros : Nat := 87
abbrev f_page_taken : Nat := 88
abbrev f_field_Get : Nat := 89
abbrev f_page_sum : Nat := 90
abbrev f_page_Page_contents : Nat := 91
abbrev f_slices_Sorted_int : Nat := 94
abbrev f_maps_Keys_M_int_P_pool_frame_int_P_pool_frame : Nat := 95
abbrev f_pool_Pool_get : Nat := 96
abbrev f_page_Page_Copy : Nat := 97
abbrev f_sectors_Device_Calls : Nat := 116
abbrev f_sectors_Device_Cache : Nat := 121
abbrev f_slices_Clone_S_uint64_uint64 : Nat := 123
abbrev f_sectors_Device_fall : Nat := 124
abbrev f_twin_Finish_1 : Nat := 125
abbrev f_slices_ContainsFunc_S_byte_byte : Nat := 126
abbrev f_twin_Finish_2 : Nat := 127
abbrev f_twin_may : Nat := 128
abbrev f_twin_put : Nat := 129
abbrev f_sectors_Load : Nat := 130
abbrev f_slices_Clip_S_byte_byte : Nat := 131
abbrev f_bytes_Clone : Nat := 132
abbrev f_log_caught : Nat := 155
abbrev f_log_Open_1 : Nat := 156
abbrev f_log_asked : Nat := 157
abbrev f_sectors_Device_Sectors : Nat := 158
abbrev f_sectors_Device_Sync : Nat := 159
abbrev f_sectors_Device_Read : Nat := 160
abbrev f_log_Log_read : Nat := 161
abbrev f_log_found : Nat := 162
abbrev f_log_Log_wipe : Nat := 163
abbrev f_record_Check : Nat := 164
abbrev f_log_Log_Free : Nat := 165
abbrev f_record_Encode : Nat := 166
abbrev f_log_own : Nat := 167
abbrev f_pool_Pool_put : Nat := 168
abbrev f_pool_Pool_write : Nat := 170
abbrev f_log_Log_Force_1 : Nat := 171
abbrev f_sectors_Device_Write : Nat := 172
abbrev f_log_laid : Nat := 173
abbrev f_errors_as : Nat := 177
abbrev f_twin_must : Nat := 178
abbrev f_page_zeros_1 : Nat := 179
abbrev f_field_place : Nat := 180
abbrev f_field_Sum : Nat := 181
abbrev f_maps_Keys_M_int_P_pool_frame_int_P_pool_frame_1 : Nat := 184
abbrev f_pool_Pool_use : Nat := 185
abbrev f_pool_Pool_oldest : Nat := 186
abbrev f_pool_Pool_seen : Nat := 187
abbrev f_slices_Clone_S_api_Counter_api_Counter : Nat := 188
abbrev f_slices_Clone_S_api_Group_api_Group : Nat := 189
abbrev f_sectors_kept : Nat := 210
abbrev f_sectors_Device_sector : Nat := 211
abbrev f_slices_IndexFunc_S_byte_byte : Nat := 212
abbrev f_log_Log_Get : Nat := 217
abbrev f_log_caught_1 : Nat := 227
abbrev f_sectors_Device_crashes : Nat := 228
abbrev f_slices_Backward_S_api_Pending_api_Pending : Nat := 229
abbrev f_record_Decode : Nat := 230
abbrev f_log_number : Nat := 231
abbrev f_log_blank : Nat := 232
abbrev f_record_in : Nat := 233
abbrev f_record_slots : Nat := 234
abbrev f_record_checkpoint : Nat := 235
abbrev f_record_below : Nat := 236
abbrev f_record_blank : Nat := 237
abbrev f_field_NewWriter : Nat := 238
abbrev f_field_Writer_U : Nat := 239
abbrev f_record_fields : Nat := 240
abbrev f_field_Writer_S : Nat := 241
abbrev f_record_state : Nat := 242
abbrev f_field_Writer_Out : Nat := 243
abbrev f_slices_Clone_S_api_Live_api_Live : Nat := 244
abbrev f_slices_Clone_S_api_Dirty_api_Dirty : Nat := 245
abbrev f_page_Encode : Nat := 246
abbrev f_twin_Write : Nat := 248
abbrev f_field_Put : Nat := 249
abbrev f_slices_Backward_S_api_Pending_api_Pending_1 : Nat := 286
abbrev f_field_NewReader : Nat := 287
abbrev f_field_Reader_U : Nat := 288
abbrev f_field_Reader_Fault : Nat := 289
abbrev f_field_Reader_S : Nat := 290
abbrev f_field_Reader_End : Nat := 291
abbrev f_log_blank_1 : Nat := 292
abbrev f_slices_Clone_S_byte_byte : Nat := 293
abbrev f_page_Page_refused : Nat := 294
abbrev f_page_Page_size : Nat := 295
abbrev f_page_laid : Nat := 296
abbrev f_twin_Write_1 : Nat := 297
abbrev f_field_Reader_next : Nat := 338
abbrev f_api_Fault_Unwrap : Nat := 371
abbrev f_math_bits_Add64 : Nat := 349
abbrev f_math_bits_Sub64 : Nat := 350
abbrev t_func : Nat := 1
abbrev t_int64 : Nat := 2
abbrev t_int : Nat := 3
abbrev t_bool : Nat := 4
abbrev t_uint8 : Nat := 5
abbrev t_string : Nat := 9
abbrev t_P_abi_Type : Nat := 17
abbrev t_interface : Nat := 20
abbrev t_api_Shape : Nat := 24
abbrev t_S_api_Counter : Nat := 29
abbrev t_S_api_Group : Nat := 30
abbrev t_S_uint64 : Nat := 33
abbrev t_api_Loss : Nat := 35
abbrev t_P_sectors_Device : Nat := 38
abbrev t_P_log_Log : Nat := 39
abbrev t_P_pool_Pool : Nat := 40
abbrev t_S_int : Nat := 42
abbrev t_api_Errno : Nat := 46
abbrev t_error : Nat := 49
abbrev t_S_uint8 : Nat := 54
abbrev t_page_Page : Nat := 57
abbrev t_S_api_Dirty : Nat := 64
abbrev t_api_Range : Nat := 77
abbrev t_api_Counter : Nat := 79
abbrev t_api_Group : Nat := 81
abbrev t_api_Dirty : Nat := 83
abbrev t_S_api_Record : Nat := 101
abbrev t_api_Kind : Nat := 119
abbrev t_api_Slot : Nat := 121
abbrev t_S_api_Live : Nat := 122
abbrev t_api_Points : Nat := 124
abbrev t_api_Record : Nat := 126
abbrev t_P_pool_frame : Nat := 152
abbrev t_M_int_P_pool_frame : Nat := 153
abbrev t_pool_Pool : Nat := 155
abbrev t_pool_frame : Nat := 157
abbrev t_P_api_Errno : Nat := 162
abbrev t_uint64 : Nat := 172
abbrev t_uint32 : Nat := 175
abbrev t_iter_Seq_int : Nat := 181
abbrev t_S_api_Pending : Nat := 199
abbrev t_api_Pending : Nat := 202
abbrev t_sectors_Device : Nat := 204
abbrev t_funcuint8_bool : Nat := 207
abbrev t_S_S_uint8 : Nat := 217
abbrev t_log_Log : Nat := 219
abbrev t_P_api_Fault : Nat := 234
abbrev t_api_Fault : Nat := 236
abbrev t_unsafe_Pointer : Nat := 254
abbrev t_reflectlite_flag : Nat := 255
abbrev t_reflectlite_Value : Nat := 257
abbrev t_reflectlite_Type : Nat := 260
abbrev t_abi_Kind : Nat := 262
abbrev t_twin_refusal : Nat := 267
abbrev t_log_refusal : Nat := 317
abbrev t_P_field_Writer : Nat := 327
abbrev t_S_P_int : Nat := 330
abbrev t_S_P_int64 : Nat := 331
abbrev t_P_api_Record : Nat := 334
abbrev t_P_int : Nat := 335
abbrev t_P_int64 : Nat := 336
abbrev t_api_Live : Nat := 339
abbrev t_interface_Asinterface_bool : Nat := 353
abbrev t_interface_Unwrap_error : Nat := 356
abbrev t_interface_Unwrap_S_error : Nat := 358
abbrev t_S_error : Nat := 359
abbrev t_16_uint32 : Nat := 362
abbrev t_P_field_Reader : Nat := 395
abbrev t_field_Writer : Nat := 401
abbrev t_field_Reader : Nat := 436
abbrev g_page_headSizes : Nat := 0
abbrev g_page_groupSizes : Nat := 1
abbrev g_page_counterSizes : Nat := 2
abbrev g_errors_errorType : Nat := 3
abbrev g_field_nibbles : Nat := 4
noncomputable abbrev prog : Program := Go.Proofs.Tryz.prog
def findT : List (Nat × TRow) → Nat → Option TRow
  | [], _ => none
  | (k, r) :: l, t => match Nat.beq k t with
    | true => some r
    | false => findT l t
def rows : List (Nat × TRow) := [
  (3, ⟨(.int .i64), [(.int .i64 0)], false, 1, 8⟩),
  (54, ⟨(.slice 5), [(.slice none 0 0)], false, 1, 24⟩),
  (126, ⟨(.struct ⟨[⟨"LSN", 3, 0, false, "", "", 0⟩, ⟨"Kind", 119, 1, false, "", "", 8⟩, ⟨"Tx", 3, 2, false, "", "", 16⟩, ⟨"Prev", 3, 3, false, "", "", 24⟩, ⟨"Where", 121, 4, false, "", "", 32⟩, ⟨"Sums", 121, 6, false, "", "", 48⟩, ⟨"Delta", 2, 8, false, "", "", 64⟩, ⟨"Counter", 79, 9, false, "", "", 72⟩, ⟨"Points", 124, 14, false, "", "", 112⟩]⟩), [(.int .i64 0), (.int .i64 0), (.int .i64 0), (.int .i64 0), (.int .i64 0), (.int .i64 0), (.int .i64 0), (.int .i64 0), (.int .i64 0), (.int .i64 0), (.int .i64 0), (.int .i64 0), (.int .i64 0), (.int .i64 0), (.slice none 0 0), (.slice none 0 0), (.int .i64 0)], true, 17, 168⟩),
  (57, ⟨(.struct ⟨[⟨"Number", 3, 0, false, "", "", 0⟩, ⟨"LSN", 3, 1, false, "", "", 8⟩, ⟨"Counters", 29, 2, false, "", "", 16⟩, ⟨"Groups", 30, 3, false, "", "", 40⟩]⟩), [(.int .i64 0), (.int .i64 0), (.slice none 0 0), (.slice none 0 0)], true, 4, 64⟩),
  (172, ⟨(.int .u64), [(.int .u64 0)], false, 1, 8⟩),
  (46, ⟨(.int .i64), [(.int .i64 0)], false, 1, 8⟩),
  (38, ⟨(.pointer 204), [(.pointer none)], false, 1, 8⟩),
  (4, ⟨.bool, [(.bool false)], false, 1, 1⟩),
  (5, ⟨(.int .u8), [(.int .u8 0)], false, 1, 1⟩),
  (49, ⟨(.interface #[("Error", 455)]), [.nilIface], false, 1, 16⟩),
  (79, ⟨(.struct ⟨[⟨"ID", 3, 0, false, "", "", 0⟩, ⟨"Group", 3, 1, false, "", "", 8⟩, ⟨"Bounds", 77, 2, false, "", "", 16⟩, ⟨"Value", 2, 4, false, "", "", 32⟩]⟩), [(.int .i64 0), (.int .i64 0), (.int .i64 0), (.int .i64 0), (.int .i64 0)], true, 5, 40⟩),
  (219, ⟨(.struct ⟨[⟨"d", 38, 0, false, "", "quota/log", 0⟩, ⟨"first", 3, 1, false, "", "quota/log", 8⟩, ⟨"count", 3, 2, false, "", "quota/log", 16⟩, ⟨"records", 101, 3, false, "", "quota/log", 24⟩, ⟨"bytes", 217, 4, false, "", "quota/log", 48⟩, ⟨"forced", 3, 5, false, "", "quota/log", 72⟩, ⟨"err", 49, 6, false, "", "quota/log", 80⟩]⟩), [(.pointer none), (.int .i64 0), (.int .i64 0), (.slice none 0 0), (.slice none 0 0), (.int .i64 0), .nilIface], true, 7, 96⟩),
  (121, ⟨(.struct ⟨[⟨"Page", 3, 0, false, "", "", 0⟩, ⟨"Index", 3, 1, false, "", "", 8⟩]⟩), [(.int .i64 0), (.int .i64 0)], true, 2, 16⟩),
  (24, ⟨(.struct ⟨[⟨"Pages", 3, 0, false, "", "", 0⟩, ⟨"Log", 3, 1, false, "", "", 8⟩, ⟨"Frames", 3, 2, false, "", "", 16⟩]⟩), [(.int .i64 0), (.int .i64 0), (.int .i64 0)], true, 3, 24⟩),
  (204, ⟨(.struct ⟨[⟨"image", 54, 0, false, "", "quota/sectors", 0⟩, ⟨"pending", 199, 1, false, "", "quota/sectors", 24⟩, ⟨"step", 3, 2, false, "", "quota/sectors", 48⟩, ⟨"loss", 35, 3, false, "", "quota/sectors", 56⟩, ⟨"down", 4, 6, false, "", "quota/sectors", 96⟩, ⟨"calls", 3, 7, false, "", "quota/sectors", 104⟩]⟩), [(.slice none 0 0), (.slice none 0 0), (.int .i64 0), (.slice none 0 0), (.int .i64 0), (.int .i64 0), (.bool false), (.int .i64 0)], true, 8, 112⟩),
  (2, ⟨(.int .i64), [(.int .i64 0)], false, 1, 8⟩),
  (33, ⟨(.slice 172), [(.slice none 0 0)], false, 1, 24⟩),
  (39, ⟨(.pointer 219), [(.pointer none)], false, 1, 8⟩),
  (40, ⟨(.pointer 155), [(.pointer none)], false, 1, 8⟩),
  (30, ⟨(.slice 81), [(.slice none 0 0)], false, 1, 24⟩),
  (153, ⟨(.map 3 152), [(.map none)], false, 1, 8⟩),
  (119, ⟨(.int .i64), [(.int .i64 0)], false, 1, 8⟩),
  (64, ⟨(.slice 83), [(.slice none 0 0)], false, 1, 24⟩),
  (155, ⟨(.struct ⟨[⟨"d", 38, 0, false, "", "quota/pool", 0⟩, ⟨"l", 39, 1, false, "", "quota/pool", 8⟩, ⟨"shape", 24, 2, false, "", "quota/pool", 16⟩, ⟨"held", 153, 5, false, "", "quota/pool", 40⟩, ⟨"clock", 3, 6, false, "", "quota/pool", 48⟩, ⟨"ended", 4, 7, false, "", "quota/pool", 56⟩]⟩), [(.pointer none), (.pointer none), (.int .i64 0), (.int .i64 0), (.int .i64 0), (.map none), (.int .i64 0), (.bool false)], true, 8, 64⟩),
  (217, ⟨(.slice 54), [(.slice none 0 0)], false, 1, 24⟩),
  (199, ⟨(.slice 202), [(.slice none 0 0)], false, 1, 24⟩),
  (124, ⟨(.struct ⟨[⟨"Live", 122, 0, false, "", "", 0⟩, ⟨"Dirty", 64, 1, false, "", "", 24⟩, ⟨"Next", 3, 2, false, "", "", 48⟩]⟩), [(.slice none 0 0), (.slice none 0 0), (.int .i64 0)], true, 3, 56⟩),
  (101, ⟨(.slice 126), [(.slice none 0 0)], false, 1, 24⟩),
  (339, ⟨(.struct ⟨[⟨"Tx", 3, 0, false, "", "", 0⟩, ⟨"Last", 3, 1, false, "", "", 8⟩, ⟨"Committed", 4, 2, false, "", "", 16⟩, ⟨"Undoing", 4, 3, false, "", "", 17⟩]⟩), [(.int .i64 0), (.int .i64 0), (.bool false), (.bool false)], true, 4, 24⟩),
  (157, ⟨(.struct ⟨[⟨"state", 57, 0, false, "", "quota/pool", 0⟩, ⟨"pins", 3, 4, false, "", "quota/pool", 64⟩, ⟨"dirty", 4, 5, false, "", "quota/pool", 72⟩, ⟨"since", 3, 6, false, "", "quota/pool", 80⟩, ⟨"used", 3, 7, false, "", "quota/pool", 88⟩]⟩), [(.int .i64 0), (.int .i64 0), (.slice none 0 0), (.slice none 0 0), (.int .i64 0), (.bool false), (.int .i64 0), (.int .i64 0)], true, 8, 96⟩),
  (202, ⟨(.struct ⟨[⟨"Sector", 3, 0, false, "", "", 0⟩, ⟨"Bytes", 54, 1, false, "", "", 8⟩]⟩), [(.int .i64 0), (.slice none 0 0)], true, 2, 32⟩),
  (29, ⟨(.slice 79), [(.slice none 0 0)], false, 1, 24⟩),
  (122, ⟨(.slice 339), [(.slice none 0 0)], false, 1, 24⟩),
  (42, ⟨(.slice 3), [(.slice none 0 0)], false, 1, 24⟩),
  (35, ⟨(.struct ⟨[⟨"Keep", 33, 0, false, "", "", 0⟩, ⟨"Torn", 3, 1, false, "", "", 24⟩, ⟨"Offset", 3, 2, false, "", "", 32⟩]⟩), [(.slice none 0 0), (.int .i64 0), (.int .i64 0)], true, 3, 40⟩),
  (436, ⟨(.struct ⟨[⟨"b", 54, 0, false, "", "quota/field", 0⟩, ⟨"at", 3, 1, false, "", "quota/field", 24⟩, ⟨"err", 46, 2, false, "", "quota/field", 32⟩]⟩), [(.slice none 0 0), (.int .i64 0), (.int .i64 0)], true, 3, 40⟩),
  (9, ⟨.string, [(.string ⟨#[]⟩)], false, 1, 16⟩),
  (20, ⟨(.interface #[]), [.nilIface], false, 1, 16⟩),
  (83, ⟨(.struct ⟨[⟨"Page", 3, 0, false, "", "", 0⟩, ⟨"Since", 3, 1, false, "", "", 8⟩]⟩), [(.int .i64 0), (.int .i64 0)], true, 2, 16⟩),
  (257, ⟨(.struct ⟨[⟨"typ_", 17, 0, false, "", "internal/reflectlite", 0⟩, ⟨"ptr", 254, 1, false, "", "internal/reflectlite", 8⟩, ⟨"flag", 255, 2, true, "", "internal/reflectlite", 16⟩]⟩), [(.pointer none), (.pointer none), (.int .u64 0)], true, 3, 24⟩),
  (395, ⟨(.pointer 436), [(.pointer none)], false, 1, 8⟩),
  (175, ⟨(.int .u32), [(.int .u32 0)], false, 1, 4⟩),
  (330, ⟨(.slice 335), [(.slice none 0 0)], false, 1, 24⟩),
  (81, ⟨(.struct ⟨[⟨"ID", 3, 0, false, "", "", 0⟩, ⟨"Sum", 2, 1, false, "", "", 8⟩]⟩), [(.int .i64 0), (.int .i64 0)], true, 2, 16⟩),
  (327, ⟨(.pointer 401), [(.pointer none)], false, 1, 8⟩),
  (236, ⟨(.struct ⟨[⟨"Call", 9, 0, false, "", "", 0⟩, ⟨"At", 3, 1, false, "", "", 16⟩, ⟨"Err", 49, 2, false, "", "", 24⟩]⟩), [(.string ⟨#[]⟩), (.int .i64 0), .nilIface], true, 3, 40⟩),
  (77, ⟨(.struct ⟨[⟨"Lo", 2, 0, false, "", "", 0⟩, ⟨"Hi", 2, 1, false, "", "", 8⟩]⟩), [(.int .i64 0), (.int .i64 0)], true, 2, 16⟩),
  (317, ⟨(.struct ⟨[⟨"at", 3, 0, false, "", "quota/log", 0⟩, ⟨"e", 46, 1, false, "", "quota/log", 8⟩]⟩), [(.int .i64 0), (.int .i64 0)], true, 2, 16⟩),
  (152, ⟨(.pointer 157), [(.pointer none)], false, 1, 8⟩),
  (401, ⟨(.struct ⟨[⟨"b", 54, 0, false, "", "quota/field", 0⟩]⟩), [(.slice none 0 0)], true, 1, 24⟩),
  (267, ⟨(.struct ⟨[⟨"err", 46, 0, false, "", "quota/twin", 0⟩]⟩), [(.int .i64 0)], true, 1, 8⟩),
  (331, ⟨(.slice 336), [(.slice none 0 0)], false, 1, 24⟩),
  (234, ⟨(.pointer 236), [(.pointer none)], false, 1, 8⟩),
  (260, ⟨(.interface #[("AssignableTo", 264), ("Comparable", 22), ("Elem", 261), ("Implements", 264), ("Kind", 263), ("Name", 455), ("PkgPath", 455), ("Size", 469), ("String", 455), ("internal/reflectlite.common", 461), ("internal/reflectlite.uncommon", 470)]), [.nilIface], false, 1, 16⟩),
  (207, ⟨(.func #[5] #[4] false), [.nilFunc], false, 1, 8⟩),
  (181, ⟨(.func #[270] #[] false), [.nilFunc], false, 1, 8⟩),
  (1, ⟨(.func #[] #[] false), [.nilFunc], false, 1, 8⟩),
  (262, ⟨(.int .u8), [(.int .u8 0)], false, 1, 1⟩),
  (334, ⟨(.pointer 126), [(.pointer none)], false, 1, 8⟩),
  (335, ⟨(.pointer 3), [(.pointer none)], false, 1, 8⟩),
  (336, ⟨(.pointer 2), [(.pointer none)], false, 1, 8⟩),
  (359, ⟨(.slice 49), [(.slice none 0 0)], false, 1, 24⟩),
  (362, ⟨(.array 16 175), [(.int .u32 0), (.int .u32 0), (.int .u32 0), (.int .u32 0), (.int .u32 0), (.int .u32 0), (.int .u32 0), (.int .u32 0), (.int .u32 0), (.int .u32 0), (.int .u32 0), (.int .u32 0), (.int .u32 0), (.int .u32 0), (.int .u32 0), (.int .u32 0)], true, 16, 64⟩),
  (162, ⟨(.pointer 46), [(.pointer none)], false, 1, 8⟩),
  (353, ⟨(.interface #[("As", 355)]), [.nilIface], false, 1, 16⟩),
  (356, ⟨(.interface #[("Unwrap", 357)]), [.nilIface], false, 1, 16⟩),
  (358, ⟨(.interface #[("Unwrap", 360)]), [.nilIface], false, 1, 16⟩),
  (17, ⟨(.pointer 468), [(.pointer none)], false, 1, 8⟩),
  (254, ⟨.unsafePointer, [(.pointer none)], false, 1, 8⟩),
  (255, ⟨(.int .u64), [(.int .u64 0)], false, 1, 8⟩)]
def tab : Tab := fun t => findT rows t
def AllOk (P : Program) : List (Nat × TRow) → Prop
  | [] => True
  | p :: l => p.2.ok P p.1 ∧ AllOk P l
theorem findT_ok {P : Program} : ∀ (l : List (Nat × TRow)), AllOk P l → ∀ t r, findT l t = some r → r.ok P t
  | [], _, _, _, h => by simp [findT] at h
  | (k, r) :: l, ⟨h1, h2⟩, t, r', h => by
    simp only [findT] at h
    split at h
    · rename_i hb; cases h; obtain rfl := Nat.eq_of_beq_eq_true hb; exact h1
    · exact findT_ok l h2 t r' h
theorem row3 : TRow.ok prog 3 ⟨(.int .i64), [(.int .i64 0)], false, 1, 8⟩ := ⟨Go.Proofs.Tryz.underlying3, rfl, Go.Proofs.Tryz.t3, by kernel_rfl, by kernel_rfl, by kernel_rfl, by kernel_rfl, fun _ => ⟨_, rfl, rfl⟩⟩
theorem row54 : TRow.ok prog 54 ⟨(.slice 5), [(.slice none 0 0)], false, 1, 24⟩ := ⟨Go.Proofs.Tryz.underlying54, rfl, Go.Proofs.Tryz.t54, by kernel_rfl, by kernel_rfl, by kernel_rfl, by kernel_rfl, fun _ => ⟨_, rfl, rfl⟩⟩
theorem row126 : TRow.ok prog 126 ⟨(.struct ⟨[⟨"LSN", 3, 0, false, "", "", 0⟩, ⟨"Kind", 119, 1, false, "", "", 8⟩, ⟨"Tx", 3, 2, false, "", "", 16⟩, ⟨"Prev", 3, 3, false, "", "", 24⟩, ⟨"Where", 121, 4, false, "", "", 32⟩, ⟨"Sums", 121, 6, false, "", "", 48⟩, ⟨"Delta", 2, 8, false, "", "", 64⟩, ⟨"Counter", 79, 9, false, "", "", 72⟩, ⟨"Points", 124, 14, false, "", "", 112⟩]⟩), [(.int .i64 0), (.int .i64 0), (.int .i64 0), (.int .i64 0), (.int .i64 0), (.int .i64 0), (.int .i64 0), (.int .i64 0), (.int .i64 0), (.int .i64 0), (.int .i64 0), (.int .i64 0), (.int .i64 0), (.int .i64 0), (.slice none 0 0), (.slice none 0 0), (.int .i64 0)], true, 17, 168⟩ := ⟨Go.Proofs.Tryz.underlying126, rfl, Go.Proofs.Tryz.t126, by kernel_rfl, by kernel_rfl, by kernel_rfl, by kernel_rfl, fun h => by cases h⟩
theorem row57 : TRow.ok prog 57 ⟨(.struct ⟨[⟨"Number", 3, 0, false, "", "", 0⟩, ⟨"LSN", 3, 1, false, "", "", 8⟩, ⟨"Counters", 29, 2, false, "", "", 16⟩, ⟨"Groups", 30, 3, false, "", "", 40⟩]⟩), [(.int .i64 0), (.int .i64 0), (.slice none 0 0), (.slice none 0 0)], true, 4, 64⟩ := ⟨Go.Proofs.Tryz.underlying57, rfl, Go.Proofs.Tryz.t57, by kernel_rfl, by kernel_rfl, by kernel_rfl, by kernel_rfl, fun h => by cases h⟩
theorem row172 : TRow.ok prog 172 ⟨(.int .u64), [(.int .u64 0)], false, 1, 8⟩ := ⟨Go.Proofs.Tryz.underlying172, rfl, Go.Proofs.Tryz.t172, by kernel_rfl, by kernel_rfl, by kernel_rfl, by kernel_rfl, fun _ => ⟨_, rfl, rfl⟩⟩
theorem row46 : TRow.ok prog 46 ⟨(.int .i64), [(.int .i64 0)], false, 1, 8⟩ := ⟨Go.Proofs.Tryz.underlying46, rfl, Go.Proofs.Tryz.t46, by kernel_rfl, by kernel_rfl, by kernel_rfl, by kernel_rfl, fun _ => ⟨_, rfl, rfl⟩⟩
theorem row38 : TRow.ok prog 38 ⟨(.pointer 204), [(.pointer none)], false, 1, 8⟩ := ⟨Go.Proofs.Tryz.underlying38, rfl, Go.Proofs.Tryz.t38, by kernel_rfl, by kernel_rfl, by kernel_rfl, by kernel_rfl, fun _ => ⟨_, rfl, rfl⟩⟩
theorem row4 : TRow.ok prog 4 ⟨.bool, [(.bool false)], false, 1, 1⟩ := ⟨Go.Proofs.Tryz.underlying4, rfl, Go.Proofs.Tryz.t4, by kernel_rfl, by kernel_rfl, by kernel_rfl, by kernel_rfl, fun _ => ⟨_, rfl, rfl⟩⟩
theorem row5 : TRow.ok prog 5 ⟨(.int .u8), [(.int .u8 0)], false, 1, 1⟩ := ⟨Go.Proofs.Tryz.underlying5, rfl, Go.Proofs.Tryz.t5, by kernel_rfl, by kernel_rfl, by kernel_rfl, by kernel_rfl, fun _ => ⟨_, rfl, rfl⟩⟩
theorem row49 : TRow.ok prog 49 ⟨(.interface #[("Error", 455)]), [.nilIface], false, 1, 16⟩ := ⟨Go.Proofs.Tryz.underlying49, rfl, Go.Proofs.Tryz.t49, by kernel_rfl, by kernel_rfl, by kernel_rfl, by kernel_rfl, fun _ => ⟨_, rfl, rfl⟩⟩
theorem row79 : TRow.ok prog 79 ⟨(.struct ⟨[⟨"ID", 3, 0, false, "", "", 0⟩, ⟨"Group", 3, 1, false, "", "", 8⟩, ⟨"Bounds", 77, 2, false, "", "", 16⟩, ⟨"Value", 2, 4, false, "", "", 32⟩]⟩), [(.int .i64 0), (.int .i64 0), (.int .i64 0), (.int .i64 0), (.int .i64 0)], true, 5, 40⟩ := ⟨Go.Proofs.Tryz.underlying79, rfl, Go.Proofs.Tryz.t79, by kernel_rfl, by kernel_rfl, by kernel_rfl, by kernel_rfl, fun h => by cases h⟩
theorem row219 : TRow.ok prog 219 ⟨(.struct ⟨[⟨"d", 38, 0, false, "", "quota/log", 0⟩, ⟨"first", 3, 1, false, "", "quota/log", 8⟩, ⟨"count", 3, 2, false, "", "quota/log", 16⟩, ⟨"records", 101, 3, false, "", "quota/log", 24⟩, ⟨"bytes", 217, 4, false, "", "quota/log", 48⟩, ⟨"forced", 3, 5, false, "", "quota/log", 72⟩, ⟨"err", 49, 6, false, "", "quota/log", 80⟩]⟩), [(.pointer none), (.int .i64 0), (.int .i64 0), (.slice none 0 0), (.slice none 0 0), (.int .i64 0), .nilIface], true, 7, 96⟩ := ⟨Go.Proofs.Tryz.underlying219, rfl, Go.Proofs.Tryz.t219, by kernel_rfl, by kernel_rfl, by kernel_rfl, by kernel_rfl, fun h => by cases h⟩
theorem row121 : TRow.ok prog 121 ⟨(.struct ⟨[⟨"Page", 3, 0, false, "", "", 0⟩, ⟨"Index", 3, 1, false, "", "", 8⟩]⟩), [(.int .i64 0), (.int .i64 0)], true, 2, 16⟩ := ⟨Go.Proofs.Tryz.underlying121, rfl, Go.Proofs.Tryz.t121, by kernel_rfl, by kernel_rfl, by kernel_rfl, by kernel_rfl, fun h => by cases h⟩
theorem row24 : TRow.ok prog 24 ⟨(.struct ⟨[⟨"Pages", 3, 0, false, "", "", 0⟩, ⟨"Log", 3, 1, false, "", "", 8⟩, ⟨"Frames", 3, 2, false, "", "", 16⟩]⟩), [(.int .i64 0), (.int .i64 0), (.int .i64 0)], true, 3, 24⟩ := ⟨Go.Proofs.Tryz.underlying24, rfl, Go.Proofs.Tryz.t24, by kernel_rfl, by kernel_rfl, by kernel_rfl, by kernel_rfl, fun h => by cases h⟩
theorem row204 : TRow.ok prog 204 ⟨(.struct ⟨[⟨"image", 54, 0, false, "", "quota/sectors", 0⟩, ⟨"pending", 199, 1, false, "", "quota/sectors", 24⟩, ⟨"step", 3, 2, false, "", "quota/sectors", 48⟩, ⟨"loss", 35, 3, false, "", "quota/sectors", 56⟩, ⟨"down", 4, 6, false, "", "quota/sectors", 96⟩, ⟨"calls", 3, 7, false, "", "quota/sectors", 104⟩]⟩), [(.slice none 0 0), (.slice none 0 0), (.int .i64 0), (.slice none 0 0), (.int .i64 0), (.int .i64 0), (.bool false), (.int .i64 0)], true, 8, 112⟩ := ⟨Go.Proofs.Tryz.underlying204, rfl, Go.Proofs.Tryz.t204, by kernel_rfl, by kernel_rfl, by kernel_rfl, by kernel_rfl, fun h => by cases h⟩
theorem row2 : TRow.ok prog 2 ⟨(.int .i64), [(.int .i64 0)], false, 1, 8⟩ := ⟨Go.Proofs.Tryz.underlying2, rfl, Go.Proofs.Tryz.t2, by kernel_rfl, by kernel_rfl, by kernel_rfl, by kernel_rfl, fun _ => ⟨_, rfl, rfl⟩⟩
theorem row33 : TRow.ok prog 33 ⟨(.slice 172), [(.slice none 0 0)], false, 1, 24⟩ := ⟨Go.Proofs.Tryz.underlying33, rfl, Go.Proofs.Tryz.t33, by kernel_rfl, by kernel_rfl, by kernel_rfl, by kernel_rfl, fun _ => ⟨_, rfl, rfl⟩⟩
theorem row39 : TRow.ok prog 39 ⟨(.pointer 219), [(.pointer none)], false, 1, 8⟩ := ⟨Go.Proofs.Tryz.underlying39, rfl, Go.Proofs.Tryz.t39, by kernel_rfl, by kernel_rfl, by kernel_rfl, by kernel_rfl, fun _ => ⟨_, rfl, rfl⟩⟩
theorem row40 : TRow.ok prog 40 ⟨(.pointer 155), [(.pointer none)], false, 1, 8⟩ := ⟨Go.Proofs.Tryz.underlying40, rfl, Go.Proofs.Tryz.t40, by kernel_rfl, by kernel_rfl, by kernel_rfl, by kernel_rfl, fun _ => ⟨_, rfl, rfl⟩⟩
theorem row30 : TRow.ok prog 30 ⟨(.slice 81), [(.slice none 0 0)], false, 1, 24⟩ := ⟨Go.Proofs.Tryz.underlying30, rfl, Go.Proofs.Tryz.t30, by kernel_rfl, by kernel_rfl, by kernel_rfl, by kernel_rfl, fun _ => ⟨_, rfl, rfl⟩⟩
theorem row153 : TRow.ok prog 153 ⟨(.map 3 152), [(.map none)], false, 1, 8⟩ := ⟨Go.Proofs.Tryz.underlying153, rfl, Go.Proofs.Tryz.t153, by kernel_rfl, by kernel_rfl, by kernel_rfl, by kernel_rfl, fun _ => ⟨_, rfl, rfl⟩⟩
theorem row119 : TRow.ok prog 119 ⟨(.int .i64), [(.int .i64 0)], false, 1, 8⟩ := ⟨Go.Proofs.Tryz.underlying119, rfl, Go.Proofs.Tryz.t119, by kernel_rfl, by kernel_rfl, by kernel_rfl, by kernel_rfl, fun _ => ⟨_, rfl, rfl⟩⟩
theorem row64 : TRow.ok prog 64 ⟨(.slice 83), [(.slice none 0 0)], false, 1, 24⟩ := ⟨Go.Proofs.Tryz.underlying64, rfl, Go.Proofs.Tryz.t64, by kernel_rfl, by kernel_rfl, by kernel_rfl, by kernel_rfl, fun _ => ⟨_, rfl, rfl⟩⟩
theorem row155 : TRow.ok prog 155 ⟨(.struct ⟨[⟨"d", 38, 0, false, "", "quota/pool", 0⟩, ⟨"l", 39, 1, false, "", "quota/pool", 8⟩, ⟨"shape", 24, 2, false, "", "quota/pool", 16⟩, ⟨"held", 153, 5, false, "", "quota/pool", 40⟩, ⟨"clock", 3, 6, false, "", "quota/pool", 48⟩, ⟨"ended", 4, 7, false, "", "quota/pool", 56⟩]⟩), [(.pointer none), (.pointer none), (.int .i64 0), (.int .i64 0), (.int .i64 0), (.map none), (.int .i64 0), (.bool false)], true, 8, 64⟩ := ⟨Go.Proofs.Tryz.underlying155, rfl, Go.Proofs.Tryz.t155, by kernel_rfl, by kernel_rfl, by kernel_rfl, by kernel_rfl, fun h => by cases h⟩
theorem row217 : TRow.ok prog 217 ⟨(.slice 54), [(.slice none 0 0)], false, 1, 24⟩ := ⟨Go.Proofs.Tryz.underlying217, rfl, Go.Proofs.Tryz.t217, by kernel_rfl, by kernel_rfl, by kernel_rfl, by kernel_rfl, fun _ => ⟨_, rfl, rfl⟩⟩
theorem row199 : TRow.ok prog 199 ⟨(.slice 202), [(.slice none 0 0)], false, 1, 24⟩ := ⟨Go.Proofs.Tryz.underlying199, rfl, Go.Proofs.Tryz.t199, by kernel_rfl, by kernel_rfl, by kernel_rfl, by kernel_rfl, fun _ => ⟨_, rfl, rfl⟩⟩
theorem row124 : TRow.ok prog 124 ⟨(.struct ⟨[⟨"Live", 122, 0, false, "", "", 0⟩, ⟨"Dirty", 64, 1, false, "", "", 24⟩, ⟨"Next", 3, 2, false, "", "", 48⟩]⟩), [(.slice none 0 0), (.slice none 0 0), (.int .i64 0)], true, 3, 56⟩ := ⟨Go.Proofs.Tryz.underlying124, rfl, Go.Proofs.Tryz.t124, by kernel_rfl, by kernel_rfl, by kernel_rfl, by kernel_rfl, fun h => by cases h⟩
theorem row101 : TRow.ok prog 101 ⟨(.slice 126), [(.slice none 0 0)], false, 1, 24⟩ := ⟨Go.Proofs.Tryz.underlying101, rfl, Go.Proofs.Tryz.t101, by kernel_rfl, by kernel_rfl, by kernel_rfl, by kernel_rfl, fun _ => ⟨_, rfl, rfl⟩⟩
theorem row339 : TRow.ok prog 339 ⟨(.struct ⟨[⟨"Tx", 3, 0, false, "", "", 0⟩, ⟨"Last", 3, 1, false, "", "", 8⟩, ⟨"Committed", 4, 2, false, "", "", 16⟩, ⟨"Undoing", 4, 3, false, "", "", 17⟩]⟩), [(.int .i64 0), (.int .i64 0), (.bool false), (.bool false)], true, 4, 24⟩ := ⟨Go.Proofs.Tryz.underlying339, rfl, Go.Proofs.Tryz.t339, by kernel_rfl, by kernel_rfl, by kernel_rfl, by kernel_rfl, fun h => by cases h⟩
theorem row157 : TRow.ok prog 157 ⟨(.struct ⟨[⟨"state", 57, 0, false, "", "quota/pool", 0⟩, ⟨"pins", 3, 4, false, "", "quota/pool", 64⟩, ⟨"dirty", 4, 5, false, "", "quota/pool", 72⟩, ⟨"since", 3, 6, false, "", "quota/pool", 80⟩, ⟨"used", 3, 7, false, "", "quota/pool", 88⟩]⟩), [(.int .i64 0), (.int .i64 0), (.slice none 0 0), (.slice none 0 0), (.int .i64 0), (.bool false), (.int .i64 0), (.int .i64 0)], true, 8, 96⟩ := ⟨Go.Proofs.Tryz.underlying157, rfl, Go.Proofs.Tryz.t157, by kernel_rfl, by kernel_rfl, by kernel_rfl, by kernel_rfl, fun h => by cases h⟩
theorem row202 : TRow.ok prog 202 ⟨(.struct ⟨[⟨"Sector", 3, 0, false, "", "", 0⟩, ⟨"Bytes", 54, 1, false, "", "", 8⟩]⟩), [(.int .i64 0), (.slice none 0 0)], true, 2, 32⟩ := ⟨Go.Proofs.Tryz.underlying202, rfl, Go.Proofs.Tryz.t202, by kernel_rfl, by kernel_rfl, by kernel_rfl, by kernel_rfl, fun h => by cases h⟩
theorem row29 : TRow.ok prog 29 ⟨(.slice 79), [(.slice none 0 0)], false, 1, 24⟩ := ⟨Go.Proofs.Tryz.underlying29, rfl, Go.Proofs.Tryz.t29, by kernel_rfl, by kernel_rfl, by kernel_rfl, by kernel_rfl, fun _ => ⟨_, rfl, rfl⟩⟩
theorem row122 : TRow.ok prog 122 ⟨(.slice 339), [(.slice none 0 0)], false, 1, 24⟩ := ⟨Go.Proofs.Tryz.underlying122, rfl, Go.Proofs.Tryz.t122, by kernel_rfl, by kernel_rfl, by kernel_rfl, by kernel_rfl, fun _ => ⟨_, rfl, rfl⟩⟩
theorem row42 : TRow.ok prog 42 ⟨(.slice 3), [(.slice none 0 0)], false, 1, 24⟩ := ⟨Go.Proofs.Tryz.underlying42, rfl, Go.Proofs.Tryz.t42, by kernel_rfl, by kernel_rfl, by kernel_rfl, by kernel_rfl, fun _ => ⟨_, rfl, rfl⟩⟩
theorem row35 : TRow.ok prog 35 ⟨(.struct ⟨[⟨"Keep", 33, 0, false, "", "", 0⟩, ⟨"Torn", 3, 1, false, "", "", 24⟩, ⟨"Offset", 3, 2, false, "", "", 32⟩]⟩), [(.slice none 0 0), (.int .i64 0), (.int .i64 0)], true, 3, 40⟩ := ⟨Go.Proofs.Tryz.underlying35, rfl, Go.Proofs.Tryz.t35, by kernel_rfl, by kernel_rfl, by kernel_rfl, by kernel_rfl, fun h => by cases h⟩
theorem row436 : TRow.ok prog 436 ⟨(.struct ⟨[⟨"b", 54, 0, false, "", "quota/field", 0⟩, ⟨"at", 3, 1, false, "", "quota/field", 24⟩, ⟨"err", 46, 2, false, "", "quota/field", 32⟩]⟩), [(.slice none 0 0), (.int .i64 0), (.int .i64 0)], true, 3, 40⟩ := ⟨Go.Proofs.Tryz.underlying436, rfl, Go.Proofs.Tryz.t436, by kernel_rfl, by kernel_rfl, by kernel_rfl, by kernel_rfl, fun h => by cases h⟩
theorem row9 : TRow.ok prog 9 ⟨.string, [(.string ⟨#[]⟩)], false, 1, 16⟩ := ⟨Go.Proofs.Tryz.underlying9, rfl, Go.Proofs.Tryz.t9, by kernel_rfl, by kernel_rfl, by kernel_rfl, by kernel_rfl, fun _ => ⟨_, rfl, rfl⟩⟩
theorem row20 : TRow.ok prog 20 ⟨(.interface #[]), [.nilIface], false, 1, 16⟩ := ⟨Go.Proofs.Tryz.underlying20, rfl, Go.Proofs.Tryz.t20, by kernel_rfl, by kernel_rfl, by kernel_rfl, by kernel_rfl, fun _ => ⟨_, rfl, rfl⟩⟩
theorem row83 : TRow.ok prog 83 ⟨(.struct ⟨[⟨"Page", 3, 0, false, "", "", 0⟩, ⟨"Since", 3, 1, false, "", "", 8⟩]⟩), [(.int .i64 0), (.int .i64 0)], true, 2, 16⟩ := ⟨Go.Proofs.Tryz.underlying83, rfl, Go.Proofs.Tryz.t83, by kernel_rfl, by kernel_rfl, by kernel_rfl, by kernel_rfl, fun h => by cases h⟩
theorem row257 : TRow.ok prog 257 ⟨(.struct ⟨[⟨"typ_", 17, 0, false, "", "internal/reflectlite", 0⟩, ⟨"ptr", 254, 1, false, "", "internal/reflectlite", 8⟩, ⟨"flag", 255, 2, true, "", "internal/reflectlite", 16⟩]⟩), [(.pointer none), (.pointer none), (.int .u64 0)], true, 3, 24⟩ := ⟨Go.Proofs.Tryz.underlying257, rfl, Go.Proofs.Tryz.t257, by kernel_rfl, by kernel_rfl, by kernel_rfl, by kernel_rfl, fun h => by cases h⟩
theorem row395 : TRow.ok prog 395 ⟨(.pointer 436), [(.pointer none)], false, 1, 8⟩ := ⟨Go.Proofs.Tryz.underlying395, rfl, Go.Proofs.Tryz.t395, by kernel_rfl, by kernel_rfl, by kernel_rfl, by kernel_rfl, fun _ => ⟨_, rfl, rfl⟩⟩
theorem row175 : TRow.ok prog 175 ⟨(.int .u32), [(.int .u32 0)], false, 1, 4⟩ := ⟨Go.Proofs.Tryz.underlying175, rfl, Go.Proofs.Tryz.t175, by kernel_rfl, by kernel_rfl, by kernel_rfl, by kernel_rfl, fun _ => ⟨_, rfl, rfl⟩⟩
theorem row330 : TRow.ok prog 330 ⟨(.slice 335), [(.slice none 0 0)], false, 1, 24⟩ := ⟨Go.Proofs.Tryz.underlying330, rfl, Go.Proofs.Tryz.t330, by kernel_rfl, by kernel_rfl, by kernel_rfl, by kernel_rfl, fun _ => ⟨_, rfl, rfl⟩⟩
theorem row81 : TRow.ok prog 81 ⟨(.struct ⟨[⟨"ID", 3, 0, false, "", "", 0⟩, ⟨"Sum", 2, 1, false, "", "", 8⟩]⟩), [(.int .i64 0), (.int .i64 0)], true, 2, 16⟩ := ⟨Go.Proofs.Tryz.underlying81, rfl, Go.Proofs.Tryz.t81, by kernel_rfl, by kernel_rfl, by kernel_rfl, by kernel_rfl, fun h => by cases h⟩
theorem row327 : TRow.ok prog 327 ⟨(.pointer 401), [(.pointer none)], false, 1, 8⟩ := ⟨Go.Proofs.Tryz.underlying327, rfl, Go.Proofs.Tryz.t327, by kernel_rfl, by kernel_rfl, by kernel_rfl, by kernel_rfl, fun _ => ⟨_, rfl, rfl⟩⟩
theorem row236 : TRow.ok prog 236 ⟨(.struct ⟨[⟨"Call", 9, 0, false, "", "", 0⟩, ⟨"At", 3, 1, false, "", "", 16⟩, ⟨"Err", 49, 2, false, "", "", 24⟩]⟩), [(.string ⟨#[]⟩), (.int .i64 0), .nilIface], true, 3, 40⟩ := ⟨Go.Proofs.Tryz.underlying236, rfl, Go.Proofs.Tryz.t236, by kernel_rfl, by kernel_rfl, by kernel_rfl, by kernel_rfl, fun h => by cases h⟩
theorem row77 : TRow.ok prog 77 ⟨(.struct ⟨[⟨"Lo", 2, 0, false, "", "", 0⟩, ⟨"Hi", 2, 1, false, "", "", 8⟩]⟩), [(.int .i64 0), (.int .i64 0)], true, 2, 16⟩ := ⟨Go.Proofs.Tryz.underlying77, rfl, Go.Proofs.Tryz.t77, by kernel_rfl, by kernel_rfl, by kernel_rfl, by kernel_rfl, fun h => by cases h⟩
theorem row317 : TRow.ok prog 317 ⟨(.struct ⟨[⟨"at", 3, 0, false, "", "quota/log", 0⟩, ⟨"e", 46, 1, false, "", "quota/log", 8⟩]⟩), [(.int .i64 0), (.int .i64 0)], true, 2, 16⟩ := ⟨Go.Proofs.Tryz.underlying317, rfl, Go.Proofs.Tryz.t317, by kernel_rfl, by kernel_rfl, by kernel_rfl, by kernel_rfl, fun h => by cases h⟩
theorem row152 : TRow.ok prog 152 ⟨(.pointer 157), [(.pointer none)], false, 1, 8⟩ := ⟨Go.Proofs.Tryz.underlying152, rfl, Go.Proofs.Tryz.t152, by kernel_rfl, by kernel_rfl, by kernel_rfl, by kernel_rfl, fun _ => ⟨_, rfl, rfl⟩⟩
theorem row401 : TRow.ok prog 401 ⟨(.struct ⟨[⟨"b", 54, 0, false, "", "quota/field", 0⟩]⟩), [(.slice none 0 0)], true, 1, 24⟩ := ⟨Go.Proofs.Tryz.underlying401, rfl, Go.Proofs.Tryz.t401, by kernel_rfl, by kernel_rfl, by kernel_rfl, by kernel_rfl, fun h => by cases h⟩
theorem row267 : TRow.ok prog 267 ⟨(.struct ⟨[⟨"err", 46, 0, false, "", "quota/twin", 0⟩]⟩), [(.int .i64 0)], true, 1, 8⟩ := ⟨Go.Proofs.Tryz.underlying267, rfl, Go.Proofs.Tryz.t267, by kernel_rfl, by kernel_rfl, by kernel_rfl, by kernel_rfl, fun h => by cases h⟩
theorem row331 : TRow.ok prog 331 ⟨(.slice 336), [(.slice none 0 0)], false, 1, 24⟩ := ⟨Go.Proofs.Tryz.underlying331, rfl, Go.Proofs.Tryz.t331, by kernel_rfl, by kernel_rfl, by kernel_rfl, by kernel_rfl, fun _ => ⟨_, rfl, rfl⟩⟩
theorem row234 : TRow.ok prog 234 ⟨(.pointer 236), [(.pointer none)], false, 1, 8⟩ := ⟨Go.Proofs.Tryz.underlying234, rfl, Go.Proofs.Tryz.t234, by kernel_rfl, by kernel_rfl, by kernel_rfl, by kernel_rfl, fun _ => ⟨_, rfl, rfl⟩⟩
theorem row260 : TRow.ok prog 260 ⟨(.interface #[("AssignableTo", 264), ("Comparable", 22), ("Elem", 261), ("Implements", 264), ("Kind", 263), ("Name", 455), ("PkgPath", 455), ("Size", 469), ("String", 455), ("internal/reflectlite.common", 461), ("internal/reflectlite.uncommon", 470)]), [.nilIface], false, 1, 16⟩ := ⟨Go.Proofs.Tryz.underlying260, rfl, Go.Proofs.Tryz.t260, by kernel_rfl, by kernel_rfl, by kernel_rfl, by kernel_rfl, fun _ => ⟨_, rfl, rfl⟩⟩
theorem row207 : TRow.ok prog 207 ⟨(.func #[5] #[4] false), [.nilFunc], false, 1, 8⟩ := ⟨Go.Proofs.Tryz.underlying207, rfl, Go.Proofs.Tryz.t207, by kernel_rfl, by kernel_rfl, by kernel_rfl, by kernel_rfl, fun _ => ⟨_, rfl, rfl⟩⟩
theorem row181 : TRow.ok prog 181 ⟨(.func #[270] #[] false), [.nilFunc], false, 1, 8⟩ := ⟨Go.Proofs.Tryz.underlying181, rfl, Go.Proofs.Tryz.t181, by kernel_rfl, by kernel_rfl, by kernel_rfl, by kernel_rfl, fun _ => ⟨_, rfl, rfl⟩⟩
theorem row1 : TRow.ok prog 1 ⟨(.func #[] #[] false), [.nilFunc], false, 1, 8⟩ := ⟨Go.Proofs.Tryz.underlying1, rfl, Go.Proofs.Tryz.t1, by kernel_rfl, by kernel_rfl, by kernel_rfl, by kernel_rfl, fun _ => ⟨_, rfl, rfl⟩⟩
theorem row262 : TRow.ok prog 262 ⟨(.int .u8), [(.int .u8 0)], false, 1, 1⟩ := ⟨Go.Proofs.Tryz.underlying262, rfl, Go.Proofs.Tryz.t262, by kernel_rfl, by kernel_rfl, by kernel_rfl, by kernel_rfl, fun _ => ⟨_, rfl, rfl⟩⟩
theorem row334 : TRow.ok prog 334 ⟨(.pointer 126), [(.pointer none)], false, 1, 8⟩ := ⟨Go.Proofs.Tryz.underlying334, rfl, Go.Proofs.Tryz.t334, by kernel_rfl, by kernel_rfl, by kernel_rfl, by kernel_rfl, fun _ => ⟨_, rfl, rfl⟩⟩
theorem row335 : TRow.ok prog 335 ⟨(.pointer 3), [(.pointer none)], false, 1, 8⟩ := ⟨Go.Proofs.Tryz.underlying335, rfl, Go.Proofs.Tryz.t335, by kernel_rfl, by kernel_rfl, by kernel_rfl, by kernel_rfl, fun _ => ⟨_, rfl, rfl⟩⟩
theorem row336 : TRow.ok prog 336 ⟨(.pointer 2), [(.pointer none)], false, 1, 8⟩ := ⟨Go.Proofs.Tryz.underlying336, rfl, Go.Proofs.Tryz.t336, by kernel_rfl, by kernel_rfl, by kernel_rfl, by kernel_rfl, fun _ => ⟨_, rfl, rfl⟩⟩
theorem row359 : TRow.ok prog 359 ⟨(.slice 49), [(.slice none 0 0)], false, 1, 24⟩ := ⟨Go.Proofs.Tryz.underlying359, rfl, Go.Proofs.Tryz.t359, by kernel_rfl, by kernel_rfl, by kernel_rfl, by kernel_rfl, fun _ => ⟨_, rfl, rfl⟩⟩
theorem row362 : TRow.ok prog 362 ⟨(.array 16 175), [(.int .u32 0), (.int .u32 0), (.int .u32 0), (.int .u32 0), (.int .u32 0), (.int .u32 0), (.int .u32 0), (.int .u32 0), (.int .u32 0), (.int .u32 0), (.int .u32 0), (.int .u32 0), (.int .u32 0), (.int .u32 0), (.int .u32 0), (.int .u32 0)], true, 16, 64⟩ := ⟨Go.Proofs.Tryz.underlying362, rfl, Go.Proofs.Tryz.t362, by kernel_rfl, by kernel_rfl, by kernel_rfl, by kernel_rfl, fun h => by cases h⟩
theorem row162 : TRow.ok prog 162 ⟨(.pointer 46), [(.pointer none)], false, 1, 8⟩ := ⟨Go.Proofs.Tryz.underlying162, rfl, Go.Proofs.Tryz.t162, by kernel_rfl, by kernel_rfl, by kernel_rfl, by kernel_rfl, fun _ => ⟨_, rfl, rfl⟩⟩
theorem row353 : TRow.ok prog 353 ⟨(.interface #[("As", 355)]), [.nilIface], false, 1, 16⟩ := ⟨Go.Proofs.Tryz.underlying353, rfl, Go.Proofs.Tryz.t353, by kernel_rfl, by kernel_rfl, by kernel_rfl, by kernel_rfl, fun _ => ⟨_, rfl, rfl⟩⟩
theorem row356 : TRow.ok prog 356 ⟨(.interface #[("Unwrap", 357)]), [.nilIface], false, 1, 16⟩ := ⟨Go.Proofs.Tryz.underlying356, rfl, Go.Proofs.Tryz.t356, by kernel_rfl, by kernel_rfl, by kernel_rfl, by kernel_rfl, fun _ => ⟨_, rfl, rfl⟩⟩
theorem row358 : TRow.ok prog 358 ⟨(.interface #[("Unwrap", 360)]), [.nilIface], false, 1, 16⟩ := ⟨Go.Proofs.Tryz.underlying358, rfl, Go.Proofs.Tryz.t358, by kernel_rfl, by kernel_rfl, by kernel_rfl, by kernel_rfl, fun _ => ⟨_, rfl, rfl⟩⟩
theorem row17 : TRow.ok prog 17 ⟨(.pointer 468), [(.pointer none)], false, 1, 8⟩ := ⟨Go.Proofs.Tryz.underlying17, rfl, Go.Proofs.Tryz.t17, by kernel_rfl, by kernel_rfl, by kernel_rfl, by kernel_rfl, fun _ => ⟨_, rfl, rfl⟩⟩
theorem row254 : TRow.ok prog 254 ⟨.unsafePointer, [(.pointer none)], false, 1, 8⟩ := ⟨Go.Proofs.Tryz.underlying254, rfl, Go.Proofs.Tryz.t254, by kernel_rfl, by kernel_rfl, by kernel_rfl, by kernel_rfl, fun _ => ⟨_, rfl, rfl⟩⟩
theorem row255 : TRow.ok prog 255 ⟨(.int .u64), [(.int .u64 0)], false, 1, 8⟩ := ⟨Go.Proofs.Tryz.underlying255, rfl, Go.Proofs.Tryz.t255, by kernel_rfl, by kernel_rfl, by kernel_rfl, by kernel_rfl, fun _ => ⟨_, rfl, rfl⟩⟩
theorem u_int : prog.underlying t_int = some (.int .i64) := Go.Proofs.Tryz.underlying3
theorem u_S_int : prog.underlying t_S_int = some (.slice 3) := Go.Proofs.Tryz.underlying42
theorem u_uint32 : prog.underlying t_uint32 = some (.int .u32) := Go.Proofs.Tryz.underlying175
theorem u_16_uint32 : prog.underlying t_16_uint32 = some (.array 16 175) := Go.Proofs.Tryz.underlying362
theorem u_interface_Asinterface_bool : prog.underlying t_interface_Asinterface_bool = some (.interface #[("As", 355)]) := Go.Proofs.Tryz.underlying353
theorem u_interface_Unwrap_error : prog.underlying t_interface_Unwrap_error = some (.interface #[("Unwrap", 357)]) := Go.Proofs.Tryz.underlying356
theorem tab_ok : Tab.ok tab prog := findT_ok rows (⟨row3, row54, row126, row57, row172, row46, row38, row4, row5, row49, row79, row219, row121, row24, row204, row2, row33, row39, row40, row30, row153, row119, row64, row155, row217, row199, row124, row101, row339, row157, row202, row29, row122, row42, row35, row436, row9, row20, row83, row257, row395, row175, row330, row81, row327, row236, row77, row317, row152, row401, row267, row331, row234, row260, row207, row181, row1, row262, row334, row335, row336, row359, row362, row162, row353, row356, row358, row17, row254, row255, trivial⟩)
theorem mixed : prog.follows .mixedOrders = true := by kernel_rfl
theorem f_math_bits_Add64.fn : prog.funcs[f_math_bits_Add64]? = some Go.Proofs.Tryz.f349 := Go.Proofs.Tryz.func349
theorem f_math_bits_Sub64.fn : prog.funcs[f_math_bits_Sub64]? = some Go.Proofs.Tryz.f350 := Go.Proofs.Tryz.func350
noncomputable abbrev f_quotalaw09_PoolNames.def : Func := Go.Proofs.Tryz.f3
theorem f_quotalaw09_PoolNames.fn : prog.funcs[f_quotalaw09_PoolNames]? = some f_quotalaw09_PoolNames.def := Go.Proofs.Tryz.func3
theorem f_quotalaw09_PoolNames.ok : Callable prog f_quotalaw09_PoolNames := callable_of Go.Proofs.Tryz.func3 (by kernel_rfl) rfl
def f_quotalaw09_PoolNames.live : Nat → Option (List Nat) := fun i => match i with
  | 0 => some []
  | 1 => some [0]
  | 2 => some [0]
  | _ => none
theorem f_quotalaw09_PoolNames.does {W : World} {H : HProp} {R : Ending → HProp → Prop} (h : exec prog W tab 2 f_quotalaw09_PoolNames.live (codeOf Go.Proofs.Tryz.f3) (bodyQ prog W tab [.tmp 0] R) (argFr 0 []) [] H) : Does prog W f_quotalaw09_PoolNames ⟨[]⟩ H R :=
  Does.of_exec tab_ok f_quotalaw09_PoolNames.live Go.Proofs.Tryz.func3 rfl rfl rfl (by simp) h
noncomputable abbrev f_quotalaw09_awake.def : Func := Go.Proofs.Tryz.f14
theorem f_quotalaw09_awake.fn : prog.funcs[f_quotalaw09_awake]? = some f_quotalaw09_awake.def := Go.Proofs.Tryz.func14
theorem f_quotalaw09_awake.ok : Callable prog f_quotalaw09_awake := callable_of Go.Proofs.Tryz.func14 (by kernel_rfl) rfl
def f_quotalaw09_awake.live : Nat → Option (List Nat) := fun i => match i with
  | 0 => some []
  | 1 => some [1]
  | 2 => some [1, 2, 3]
  | 3 => some [1, 2, 26]
  | 4 => some [0]
  | 5 => some [1, 2, 4, 5]
  | 6 => some [1, 2, 4, 37]
  | 7 => some [0]
  | 8 => some [1, 4, 6, 7]
  | 9 => some [4, 6, 7, 9]
  | 10 => some [4, 6, 62]
  | 11 => some [0]
  | 12 => some [4, 6, 10, 11]
  | 13 => some [4, 5, 6, 10, 11, 12]
  | 14 => some [4, 6, 12, 103]
  | 15 => some [0]
  | 16 => some [4, 5, 6, 12]
  | 17 => some [4, 5, 6, 12, 14]
  | 18 => some [6, 12, 143]
  | 19 => some [0]
  | 20 => some [5, 6, 12]
  | 21 => some [0]
  | _ => none
theorem f_quotalaw09_awake.does {W : World} {H : HProp} {R : Ending → HProp → Prop} (h : exec prog W tab 176 f_quotalaw09_awake.live (codeOf Go.Proofs.Tryz.f14) (bodyQ prog W tab [.tmp 0] R) (argFr 0 []) [] H) : Does prog W f_quotalaw09_awake ⟨[]⟩ H R :=
  Does.of_exec tab_ok f_quotalaw09_awake.live Go.Proofs.Tryz.func14 rfl rfl rfl (by simp) h
noncomputable abbrev f_quotalaw09_num.def : Func := Go.Proofs.Tryz.f17
theorem f_quotalaw09_num.fn : prog.funcs[f_quotalaw09_num]? = some f_quotalaw09_num.def := Go.Proofs.Tryz.func17
theorem f_quotalaw09_num.ok : Callable prog f_quotalaw09_num := callable_of Go.Proofs.Tryz.func17 (by kernel_rfl) rfl
def f_quotalaw09_num.live : Nat → Option (List Nat) := fun i => match i with
  | 0 => some [0]
  | 1 => some [2]
  | _ => none
theorem f_quotalaw09_num.does {W : World} {H : HProp} {R : Ending → HProp → Prop} (a0 : Value) (h : exec prog W tab 4 f_quotalaw09_num.live (codeOf Go.Proofs.Tryz.f17) (bodyQ prog W tab [.tmp 2] R) (argFr 0 [a0]) [] H) : Does prog W f_quotalaw09_num ⟨[a0]⟩ H R :=
  Does.of_exec tab_ok f_quotalaw09_num.live Go.Proofs.Tryz.func17 rfl rfl rfl (by simp) h
noncomputable abbrev f_pool_Pool_Unpin.def : Func := Go.Proofs.Tryz.f18
theorem f_pool_Pool_Unpin.fn : prog.funcs[f_pool_Pool_Unpin]? = some f_pool_Pool_Unpin.def := Go.Proofs.Tryz.func18
theorem f_pool_Pool_Unpin.ok : Callable prog f_pool_Pool_Unpin := callable_of Go.Proofs.Tryz.func18 (by kernel_rfl) rfl
def f_pool_Pool_Unpin.live : Nat → Option (List Nat) := fun i => match i with
  | 0 => some [0, 1]
  | 1 => some [0, 1, 5]
  | 2 => some [0, 1, 5, 11]
  | 3 => some [4]
  | 4 => some [6]
  | 5 => some [6, 27]
  | 6 => some [4]
  | 7 => some []
  | 8 => some [4]
  | _ => none
theorem f_pool_Pool_Unpin.does {W : World} {H : HProp} {R : Ending → HProp → Prop} (a0 a1 : Value) (h : exec prog W tab 35 f_pool_Pool_Unpin.live (codeOf Go.Proofs.Tryz.f18) (bodyQ prog W tab [.tmp 4] R) (argFr 0 [a0, a1]) [] H) : Does prog W f_pool_Pool_Unpin ⟨[a0, a1]⟩ H R :=
  Does.of_exec tab_ok f_pool_Pool_Unpin.live Go.Proofs.Tryz.func18 rfl rfl rfl (by simp) h
noncomputable abbrev f_pool_Pool_Evict.def : Func := Go.Proofs.Tryz.f19
theorem f_pool_Pool_Evict.fn : prog.funcs[f_pool_Pool_Evict]? = some f_pool_Pool_Evict.def := Go.Proofs.Tryz.func19
theorem f_pool_Pool_Evict.ok : Callable prog f_pool_Pool_Evict := callable_of Go.Proofs.Tryz.func19 (by kernel_rfl) rfl
def f_pool_Pool_Evict.live : Nat → Option (List Nat) := fun i => match i with
  | 0 => some [0, 1]
  | 1 => some [0, 1, 5, 6]
  | 2 => some [1, 6]
  | 3 => some [0, 1, 5, 6, 16]
  | 4 => some [0, 1, 19]
  | 5 => some [1, 6]
  | 6 => some [4]
  | _ => none
theorem f_pool_Pool_Evict.does {W : World} {H : HProp} {R : Ending → HProp → Prop} (a0 a1 : Value) (h : exec prog W tab 28 f_pool_Pool_Evict.live (codeOf Go.Proofs.Tryz.f19) (bodyQ prog W tab [.tmp 4] R) (argFr 0 [a0, a1]) [] H) : Does prog W f_pool_Pool_Evict ⟨[a0, a1]⟩ H R :=
  Does.of_exec tab_ok f_pool_Pool_Evict.live Go.Proofs.Tryz.func19 rfl rfl rfl (by simp) h
noncomputable abbrev f_api_Code.def : Func := Go.Proofs.Tryz.f20
theorem f_api_Code.fn : prog.funcs[f_api_Code]? = some f_api_Code.def := Go.Proofs.Tryz.func20
theorem f_api_Code.ok : Callable prog f_api_Code := callable_of Go.Proofs.Tryz.func20 (by kernel_rfl) rfl
def f_api_Code.live : Nat → Option (List Nat) := fun i => match i with
  | 0 => some [0]
  | 1 => some [0, 5]
  | 2 => some [2]
  | 3 => some [0, 3]
  | 4 => some [3, 8]
  | 5 => some [2]
  | 6 => some [2]
  | _ => none
theorem f_api_Code.does {W : World} {H : HProp} {R : Ending → HProp → Prop} (a0 : Value) (h : exec prog W tab 10 f_api_Code.live (codeOf Go.Proofs.Tryz.f20) (bodyQ prog W tab [.tmp 2] R) (argFr 0 [a0]) [] H) : Does prog W f_api_Code ⟨[a0]⟩ H R :=
  Does.of_exec tab_ok f_api_Code.live Go.Proofs.Tryz.func20 rfl rfl rfl (by simp) h
noncomputable abbrev f_master_Home.def : Func := Go.Proofs.Tryz.f21
theorem f_master_Home.fn : prog.funcs[f_master_Home]? = some f_master_Home.def := Go.Proofs.Tryz.func21
theorem f_master_Home.ok : Callable prog f_master_Home := callable_of Go.Proofs.Tryz.func21 (by kernel_rfl) rfl
def f_master_Home.live : Nat → Option (List Nat) := fun i => match i with
  | 0 => some [1, 2]
  | 1 => some [1, 2, 8]
  | 2 => some [4, 5]
  | 3 => some [1, 16]
  | 4 => some [4, 5]
  | 5 => some [4, 5]
  | _ => none
theorem f_master_Home.does {W : World} {H : HProp} {R : Ending → HProp → Prop} (a0 a1 : Value) (h : exec prog W tab 20 f_master_Home.live (codeOf Go.Proofs.Tryz.f21) (bodyQ prog W tab [.tmp 4, .tmp 5] R) (argFr 0 [a0, a1]) [] H) : Does prog W f_master_Home ⟨[a0, a1]⟩ H R :=
  Does.of_exec tab_ok f_master_Home.live Go.Proofs.Tryz.func21 rfl rfl rfl (by simp) h
noncomputable abbrev f_twin_Read.def : Func := Go.Proofs.Tryz.f22
theorem f_twin_Read.fn : prog.funcs[f_twin_Read]? = some f_twin_Read.def := Go.Proofs.Tryz.func22
theorem f_twin_Read.ok : Callable prog f_twin_Read := callable_of Go.Proofs.Tryz.func22 (by kernel_rfl) rfl
def f_twin_Read.live : Nat → Option (List Nat) := fun i => match i with
  | 0 => some [0, 1, 4, 5]
  | 1 => some [0, 1, 4, 5]
  | 2 => some [0, 1, 4, 5]
  | 3 => some [0, 1, 4, 5]
  | 4 => some [4, 5]
  | _ => none
theorem f_twin_Read.does {W : World} {H : HProp} {R : Ending → HProp → Prop} (a0 a1 : Value) (h : exec prog W tab 21 f_twin_Read.live (codeOf Go.Proofs.Tryz.f22) (bodyQ prog W tab [.tmp 4, .cell 5 49] R) (argFr 0 [a0, a1]) [] H) : Does prog W f_twin_Read ⟨[a0, a1]⟩ H R :=
  Does.of_exec tab_ok f_twin_Read.live Go.Proofs.Tryz.func22 rfl rfl rfl (by simp) h
noncomputable abbrev f_page_Decode.def : Func := Go.Proofs.Tryz.f23
theorem f_page_Decode.fn : prog.funcs[f_page_Decode]? = some f_page_Decode.def := Go.Proofs.Tryz.func23
theorem f_page_Decode.ok : Callable prog f_page_Decode := callable_of Go.Proofs.Tryz.func23 (by kernel_rfl) rfl
def f_page_Decode.live : Nat → Option (List Nat) := fun i => match i with
  | 0 => some [0, 1, 4]
  | 1 => some [0, 1, 4, 17]
  | 2 => some [4, 5]
  | 3 => some [0, 1, 4, 22]
  | 4 => some [4, 5]
  | 5 => some [0, 1, 4, 27]
  | 6 => some [4, 5]
  | 7 => some [0, 1, 4, 32]
  | 8 => some [4, 5]
  | 9 => some [0, 1, 4, 38]
  | 10 => some [4, 5]
  | 11 => some [0, 1, 4, 6]
  | 12 => some [0, 1, 4, 6, 7]
  | 13 => some [0, 1, 4, 6, 7, 9, 10]
  | 14 => some [0, 1, 4, 6, 7, 9, 10, 61]
  | 15 => some [0, 1, 4, 6, 7, 9, 10]
  | 16 => some [0, 1, 4, 6, 7, 9, 10, 11]
  | 17 => some [0, 1, 4, 6, 9, 10, 11, 66]
  | 18 => some [4, 5]
  | 19 => some [0, 1, 4, 6, 9, 10, 11, 73]
  | 20 => some [4, 5]
  | 21 => some [0, 1, 4, 6, 10, 11, 81]
  | 22 => some [4, 5]
  | 23 => some [0, 4, 6, 10, 11, 12]
  | 24 => some [0, 4, 6, 10, 11, 12, 101, 102]
  | 25 => some [0, 4, 6, 10, 11, 12, 101, 102, 103]
  | 26 => some [0, 4, 6, 10, 11, 12, 13, 101, 102]
  | 27 => some [0, 4, 6, 10, 11, 12, 13, 101, 102, 108]
  | 28 => some [0, 4, 6, 10, 11, 12, 14, 101, 102]
  | 29 => some [0, 4, 6, 10, 11, 12, 101, 102]
  | 30 => some [0, 4, 6, 10, 11, 12, 15, 101, 102]
  | 31 => some [0, 4, 6, 10, 11, 12, 101, 102]
  | 32 => some [0, 4, 6, 10, 11, 12, 101, 102]
  | 33 => some [0, 4, 6, 10, 11, 12, 16]
  | 34 => some [0, 4, 6, 10, 11, 12, 16, 168]
  | 35 => some [4, 5]
  | 36 => some [4, 12, 184]
  | 37 => some [4, 5]
  | 38 => some [4, 5]
  | _ => none
theorem f_page_Decode.does {W : World} {H : HProp} {R : Ending → HProp → Prop} (a0 a1 : Value) (h : exec prog W tab 187 f_page_Decode.live (codeOf Go.Proofs.Tryz.f23) (bodyQ prog W tab [.cell 4 57, .tmp 5] R) (argFr 0 [a0, a1]) [] H) : Does prog W f_page_Decode ⟨[a0, a1]⟩ H R :=
  Does.of_exec tab_ok f_page_Decode.live Go.Proofs.Tryz.func23 rfl rfl rfl (by simp) h
def f_page_Decode.plan29 : List Nat := [0, 1, 2, 3, 4, 5, 6, 7, 8, 9, 10, 11, 12, 13, 14]
def f_page_Decode.last29 : List Nat := [12, 13, 14]
def f_page_Decode.plan31 : List Nat := [0, 1, 2, 3, 4, 5, 6, 7, 8, 9, 10, 11, 12, 13, 14, 15, 16, 17, 18, 19, 20, 21, 22, 23, 24, 25, 26, 27]
def f_page_Decode.last31 : List Nat := [25, 26, 27]
noncomputable abbrev f_pool_Pool_Held.def : Func := Go.Proofs.Tryz.f27
theorem f_pool_Pool_Held.fn : prog.funcs[f_pool_Pool_Held]? = some f_pool_Pool_Held.def := Go.Proofs.Tryz.func27
theorem f_pool_Pool_Held.ok : Callable prog f_pool_Pool_Held := callable_of Go.Proofs.Tryz.func27 (by kernel_rfl) rfl
def f_pool_Pool_Held.live : Nat → Option (List Nat) := fun i => match i with
  | 0 => some [0]
  | 1 => some [2]
  | _ => none
theorem f_pool_Pool_Held.does {W : World} {H : HProp} {R : Ending → HProp → Prop} (a0 : Value) (h : exec prog W tab 9 f_pool_Pool_Held.live (codeOf Go.Proofs.Tryz.f27) (bodyQ prog W tab [.tmp 2] R) (argFr 0 [a0]) [] H) : Does prog W f_pool_Pool_Held ⟨[a0]⟩ H R :=
  Does.of_exec tab_ok f_pool_Pool_Held.live Go.Proofs.Tryz.func27 rfl rfl rfl (by simp) h
noncomputable abbrev f_pool_Pool_Dirty.def : Func := Go.Proofs.Tryz.f28
theorem f_pool_Pool_Dirty.fn : prog.funcs[f_pool_Pool_Dirty]? = some f_pool_Pool_Dirty.def := Go.Proofs.Tryz.func28
theorem f_pool_Pool_Dirty.ok : Callable prog f_pool_Pool_Dirty := callable_of Go.Proofs.Tryz.func28 (by kernel_rfl) rfl
def f_pool_Pool_Dirty.live : Nat → Option (List Nat) := fun i => match i with
  | 0 => some [0]
  | 1 => some [0, 3]
  | 2 => some [0, 3, 8, 9, 10]
  | 3 => some [0, 3, 8, 9, 10, 11]
  | 4 => some [0, 3, 5, 8, 9, 10]
  | 5 => some [0, 3, 5, 6, 8, 9, 10]
  | 6 => some [0, 3, 5, 6, 8, 9, 10, 23]
  | 7 => some [0, 3, 8, 9, 10]
  | 8 => some [0, 3, 8, 9, 10]
  | 9 => some [2]
  | _ => none
theorem f_pool_Pool_Dirty.does {W : World} {H : HProp} {R : Ending → HProp → Prop} (a0 : Value) (h : exec prog W tab 35 f_pool_Pool_Dirty.live (codeOf Go.Proofs.Tryz.f28) (bodyQ prog W tab [.tmp 2] R) (argFr 0 [a0]) [] H) : Does prog W f_pool_Pool_Dirty ⟨[a0]⟩ H R :=
  Does.of_exec tab_ok f_pool_Pool_Dirty.live Go.Proofs.Tryz.func28 rfl rfl rfl (by simp) h
noncomputable abbrev f_pool_Pool_Get.def : Func := Go.Proofs.Tryz.f30
theorem f_pool_Pool_Get.fn : prog.funcs[f_pool_Pool_Get]? = some f_pool_Pool_Get.def := Go.Proofs.Tryz.func30
theorem f_pool_Pool_Get.ok : Callable prog f_pool_Pool_Get := callable_of Go.Proofs.Tryz.func30 (by kernel_rfl) rfl
def f_pool_Pool_Get.live : Nat → Option (List Nat) := fun i => match i with
  | 0 => some [0, 1, 4]
  | 1 => some [1, 4, 6, 7]
  | 2 => some [1, 4, 6, 7, 15]
  | 3 => some [4, 5]
  | 4 => some [4, 5]
  | _ => none
theorem f_pool_Pool_Get.does {W : World} {H : HProp} {R : Ending → HProp → Prop} (a0 a1 : Value) (h : exec prog W tab 25 f_pool_Pool_Get.live (codeOf Go.Proofs.Tryz.f30) (bodyQ prog W tab [.cell 4 57, .tmp 5] R) (argFr 0 [a0, a1]) [] H) : Does prog W f_pool_Pool_Get ⟨[a0, a1]⟩ H R :=
  Does.of_exec tab_ok f_pool_Pool_Get.live Go.Proofs.Tryz.func30 rfl rfl rfl (by simp) h
noncomputable abbrev f_sectors_Device_Arm.def : Func := Go.Proofs.Tryz.f35
theorem f_sectors_Device_Arm.fn : prog.funcs[f_sectors_Device_Arm]? = some f_sectors_Device_Arm.def := Go.Proofs.Tryz.func35
theorem f_sectors_Device_Arm.ok : Callable prog f_sectors_Device_Arm := callable_of Go.Proofs.Tryz.func35 (by kernel_rfl) rfl
def f_sectors_Device_Arm.live : Nat → Option (List Nat) := fun i => match i with
  | 0 => some [0, 1, 5]
  | 1 => some [0, 1, 5, 7]
  | 2 => some [6]
  | 3 => some [0, 1, 5, 12]
  | 4 => some [6]
  | 5 => some [0, 5]
  | 6 => some []
  | 7 => some [6]
  | _ => none
theorem f_sectors_Device_Arm.does {W : World} {H : HProp} {R : Ending → HProp → Prop} (a0 a1 a2 : Value) (h : exec prog W tab 30 f_sectors_Device_Arm.live (codeOf Go.Proofs.Tryz.f35) (bodyQ prog W tab [.tmp 6] R) (argFr 0 [a0, a1, a2]) [] H) : Does prog W f_sectors_Device_Arm ⟨[a0, a1, a2]⟩ H R :=
  Does.of_exec tab_ok f_sectors_Device_Arm.live Go.Proofs.Tryz.func35 rfl rfl rfl (by simp) h
def f_sectors_Device_Arm.plan6 : List Nat := [0, 1, 2, 4, 5, 6, 7, 3, 8, 9, 10, 11]
def f_sectors_Device_Arm.last6 : List Nat := [9, 10, 11]
noncomputable abbrev f_sectors_Device_Down.def : Func := Go.Proofs.Tryz.f36
theorem f_sectors_Device_Down.fn : prog.funcs[f_sectors_Device_Down]? = some f_sectors_Device_Down.def := Go.Proofs.Tryz.func36
theorem f_sectors_Device_Down.ok : Callable prog f_sectors_Device_Down := callable_of Go.Proofs.Tryz.func36 (by kernel_rfl) rfl
def f_sectors_Device_Down.live : Nat → Option (List Nat) := fun i => match i with
  | 0 => some [0]
  | 1 => some [2]
  | _ => none
theorem f_sectors_Device_Down.does {W : World} {H : HProp} {R : Ending → HProp → Prop} (a0 : Value) (h : exec prog W tab 7 f_sectors_Device_Down.live (codeOf Go.Proofs.Tryz.f36) (bodyQ prog W tab [.tmp 2] R) (argFr 0 [a0]) [] H) : Does prog W f_sectors_Device_Down ⟨[a0]⟩ H R :=
  Does.of_exec tab_ok f_sectors_Device_Down.live Go.Proofs.Tryz.func36 rfl rfl rfl (by simp) h
noncomputable abbrev f_sectors_Device_Crash.def : Func := Go.Proofs.Tryz.f37
theorem f_sectors_Device_Crash.fn : prog.funcs[f_sectors_Device_Crash]? = some f_sectors_Device_Crash.def := Go.Proofs.Tryz.func37
theorem f_sectors_Device_Crash.ok : Callable prog f_sectors_Device_Crash := callable_of Go.Proofs.Tryz.func37 (by kernel_rfl) rfl
def f_sectors_Device_Crash.live : Nat → Option (List Nat) := fun i => match i with
  | 0 => some [0, 3]
  | 1 => some [0, 3, 8]
  | 2 => some [4]
  | 3 => some []
  | 4 => some [4]
  | _ => none
theorem f_sectors_Device_Crash.does {W : World} {H : HProp} {R : Ending → HProp → Prop} (a0 a1 : Value) (h : exec prog W tab 12 f_sectors_Device_Crash.live (codeOf Go.Proofs.Tryz.f37) (bodyQ prog W tab [.tmp 4] R) (argFr 0 [a0, a1]) [] H) : Does prog W f_sectors_Device_Crash ⟨[a0, a1]⟩ H R :=
  Does.of_exec tab_ok f_sectors_Device_Crash.live Go.Proofs.Tryz.func37 rfl rfl rfl (by simp) h
noncomputable abbrev f_sectors_Device_Up.def : Func := Go.Proofs.Tryz.f38
theorem f_sectors_Device_Up.fn : prog.funcs[f_sectors_Device_Up]? = some f_sectors_Device_Up.def := Go.Proofs.Tryz.func38
theorem f_sectors_Device_Up.ok : Callable prog f_sectors_Device_Up := callable_of Go.Proofs.Tryz.func38 (by kernel_rfl) rfl
def f_sectors_Device_Up.live : Nat → Option (List Nat) := fun i => match i with
  | 0 => some [0]
  | 1 => some [0]
  | 2 => some []
  | 3 => some [2]
  | _ => none
theorem f_sectors_Device_Up.does {W : World} {H : HProp} {R : Ending → HProp → Prop} (a0 : Value) (h : exec prog W tab 9 f_sectors_Device_Up.live (codeOf Go.Proofs.Tryz.f38) (bodyQ prog W tab [.tmp 2] R) (argFr 0 [a0]) [] H) : Does prog W f_sectors_Device_Up ⟨[a0]⟩ H R :=
  Does.of_exec tab_ok f_sectors_Device_Up.live Go.Proofs.Tryz.func38 rfl rfl rfl (by simp) h
noncomputable abbrev f_twin_Finish.def : Func := Go.Proofs.Tryz.f39
theorem f_twin_Finish.fn : prog.funcs[f_twin_Finish]? = some f_twin_Finish.def := Go.Proofs.Tryz.func39
theorem f_twin_Finish.ok : Callable prog f_twin_Finish := callable_of Go.Proofs.Tryz.func39 (by kernel_rfl) rfl
def f_twin_Finish.live : Nat → Option (List Nat) := fun i => match i with
  | 0 => some [0, 1, 4, 5]
  | 1 => some [0, 1, 4, 5]
  | 2 => some [0, 1, 4, 5]
  | 3 => some [0, 1, 4, 5]
  | 4 => some [0, 1, 4, 5, 6]
  | 5 => some [0, 1, 4, 5, 6, 23]
  | 6 => some [4, 5]
  | 7 => some [0, 1, 4, 5, 6, 7]
  | 8 => some [0, 1, 4, 5, 6, 7, 24]
  | 9 => some [0, 1, 4, 5, 6, 7, 24, 25]
  | 10 => some [0, 1, 4, 5, 6, 7, 8, 24]
  | 11 => some [0, 1, 4, 5, 6, 7, 24]
  | 12 => some [0, 1, 4, 5, 6, 7, 24]
  | 13 => some [0, 1, 4, 5, 6, 7, 9]
  | 14 => some [0, 1, 4, 5, 6, 7]
  | 15 => some [0, 1, 4, 5, 6]
  | 16 => some [0, 1, 4, 5, 6]
  | 17 => some [4, 5]
  | 18 => some [4, 5]
  | _ => none
theorem f_twin_Finish.does {W : World} {H : HProp} {R : Ending → HProp → Prop} (a0 a1 : Value) (h : exec prog W tab 74 f_twin_Finish.live (codeOf Go.Proofs.Tryz.f39) (bodyQ prog W tab [.tmp 4, .cell 5 49] R) (argFr 0 [a0, a1]) [] H) : Does prog W f_twin_Finish ⟨[a0, a1]⟩ H R :=
  Does.of_exec tab_ok f_twin_Finish.live Go.Proofs.Tryz.func39 rfl rfl rfl (by simp) h
noncomputable abbrev f_sectors_Device_Image.def : Func := Go.Proofs.Tryz.f42
theorem f_sectors_Device_Image.fn : prog.funcs[f_sectors_Device_Image]? = some f_sectors_Device_Image.def := Go.Proofs.Tryz.func42
theorem f_sectors_Device_Image.ok : Callable prog f_sectors_Device_Image := callable_of Go.Proofs.Tryz.func42 (by kernel_rfl) rfl
def f_sectors_Device_Image.live : Nat → Option (List Nat) := fun i => match i with
  | 0 => some [0]
  | 1 => some [2]
  | _ => none
theorem f_sectors_Device_Image.does {W : World} {H : HProp} {R : Ending → HProp → Prop} (a0 : Value) (h : exec prog W tab 9 f_sectors_Device_Image.live (codeOf Go.Proofs.Tryz.f42) (bodyQ prog W tab [.tmp 2] R) (argFr 0 [a0]) [] H) : Does prog W f_sectors_Device_Image ⟨[a0]⟩ H R :=
  Does.of_exec tab_ok f_sectors_Device_Image.live Go.Proofs.Tryz.func42 rfl rfl rfl (by simp) h
noncomputable abbrev f_log_Log_Last.def : Func := Go.Proofs.Tryz.f47
theorem f_log_Log_Last.fn : prog.funcs[f_log_Log_Last]? = some f_log_Log_Last.def := Go.Proofs.Tryz.func47
theorem f_log_Log_Last.ok : Callable prog f_log_Log_Last := callable_of Go.Proofs.Tryz.func47 (by kernel_rfl) rfl
def f_log_Log_Last.live : Nat → Option (List Nat) := fun i => match i with
  | 0 => some [0]
  | 1 => some [2]
  | _ => none
theorem f_log_Log_Last.does {W : World} {H : HProp} {R : Ending → HProp → Prop} (a0 : Value) (h : exec prog W tab 8 f_log_Log_Last.live (codeOf Go.Proofs.Tryz.f47) (bodyQ prog W tab [.tmp 2] R) (argFr 0 [a0]) [] H) : Does prog W f_log_Log_Last ⟨[a0]⟩ H R :=
  Does.of_exec tab_ok f_log_Log_Last.live Go.Proofs.Tryz.func47 rfl rfl rfl (by simp) h
noncomputable abbrev f_sectors_New.def : Func := Go.Proofs.Tryz.f60
theorem f_sectors_New.fn : prog.funcs[f_sectors_New]? = some f_sectors_New.def := Go.Proofs.Tryz.func60
theorem f_sectors_New.ok : Callable prog f_sectors_New := callable_of Go.Proofs.Tryz.func60 (by kernel_rfl) rfl
def f_sectors_New.live : Nat → Option (List Nat) := fun i => match i with
  | 0 => some [0]
  | 1 => some [0, 9]
  | 2 => some [2, 3]
  | 3 => some [2, 3]
  | _ => none
theorem f_sectors_New.does {W : World} {H : HProp} {R : Ending → HProp → Prop} (a0 : Value) (h : exec prog W tab 15 f_sectors_New.live (codeOf Go.Proofs.Tryz.f60) (bodyQ prog W tab [.tmp 2, .tmp 3] R) (argFr 0 [a0]) [] H) : Does prog W f_sectors_New ⟨[a0]⟩ H R :=
  Does.of_exec tab_ok f_sectors_New.live Go.Proofs.Tryz.func60 rfl rfl rfl (by simp) h
noncomputable abbrev f_log_Open.def : Func := Go.Proofs.Tryz.f61
theorem f_log_Open.fn : prog.funcs[f_log_Open]? = some f_log_Open.def := Go.Proofs.Tryz.func61
theorem f_log_Open.ok : Callable prog f_log_Open := callable_of Go.Proofs.Tryz.func61 (by kernel_rfl) rfl
def f_log_Open.live : Nat → Option (List Nat) := fun i => match i with
  | 0 => some [3, 4, 5]
  | 1 => some [3, 4, 5, 8]
  | 2 => some [8, 9]
  | 3 => some [8, 9, 18]
  | 4 => some [6, 7]
  | 5 => some [6, 7]
  | _ => none
theorem f_log_Open.does {W : World} {H : HProp} {R : Ending → HProp → Prop} (a0 a1 a2 : Value) (h : exec prog W tab 21 f_log_Open.live (codeOf Go.Proofs.Tryz.f61) (bodyQ prog W tab [.tmp 6, .tmp 7] R) (argFr 0 [a0, a1, a2]) [] H) : Does prog W f_log_Open ⟨[a0, a1, a2]⟩ H R :=
  Does.of_exec tab_ok f_log_Open.live Go.Proofs.Tryz.func61 rfl rfl rfl (by simp) h
noncomputable abbrev f_pool_New.def : Func := Go.Proofs.Tryz.f62
theorem f_pool_New.fn : prog.funcs[f_pool_New]? = some f_pool_New.def := Go.Proofs.Tryz.func62
theorem f_pool_New.ok : Callable prog f_pool_New := callable_of Go.Proofs.Tryz.func62 (by kernel_rfl) rfl
def f_pool_New.live : Nat → Option (List Nat) := fun i => match i with
  | 0 => some [0, 1, 5]
  | 1 => some [0, 1, 5, 15]
  | 2 => some [6, 7]
  | 3 => some [0, 1, 5, 8, 9]
  | 4 => some [0, 1, 5, 28]
  | 5 => some [6, 7]
  | 6 => some [6, 7]
  | _ => none
theorem f_pool_New.does {W : World} {H : HProp} {R : Ending → HProp → Prop} (a0 a1 a2 : Value) (h : exec prog W tab 35 f_pool_New.live (codeOf Go.Proofs.Tryz.f62) (bodyQ prog W tab [.tmp 6, .tmp 7] R) (argFr 0 [a0, a1, a2]) [] H) : Does prog W f_pool_New ⟨[a0, a1, a2]⟩ H R :=
  Does.of_exec tab_ok f_pool_New.live Go.Proofs.Tryz.func62 rfl rfl rfl (by simp) h
noncomputable abbrev f_log_Log_Append.def : Func := Go.Proofs.Tryz.f63
theorem f_log_Log_Append.fn : prog.funcs[f_log_Log_Append]? = some f_log_Log_Append.def := Go.Proofs.Tryz.func63
theorem f_log_Log_Append.ok : Callable prog f_log_Log_Append := callable_of Go.Proofs.Tryz.func63 (by kernel_rfl) rfl
def f_log_Log_Append.live : Nat → Option (List Nat) := fun i => match i with
  | 0 => some [0, 3]
  | 1 => some [0, 3, 13]
  | 2 => some [4, 5]
  | 3 => some [0, 3]
  | 4 => some [0, 3, 6]
  | 5 => some [0, 3, 6, 24]
  | 6 => some [4, 5]
  | 7 => some [0, 3, 28]
  | 8 => some [4, 5]
  | 9 => some [0, 3, 7, 8]
  | 10 => some [0, 3, 7, 8, 35]
  | 11 => some [4, 5]
  | 12 => some [0, 3, 7]
  | 13 => some [3]
  | 14 => some [4, 5]
  | _ => none
theorem f_log_Log_Append.does {W : World} {H : HProp} {R : Ending → HProp → Prop} (a0 a1 : Value) (h : exec prog W tab 60 f_log_Log_Append.live (codeOf Go.Proofs.Tryz.f63) (bodyQ prog W tab [.tmp 4, .tmp 5] R) (argFr 0 [a0, a1]) [] H) : Does prog W f_log_Log_Append ⟨[a0, a1]⟩ H R :=
  Does.of_exec tab_ok f_log_Log_Append.live Go.Proofs.Tryz.func63 rfl rfl rfl (by simp) h
def f_log_Log_Append.plan12 : List Nat := [0, 1, 2, 3, 4, 5, 6, 7, 8, 9, 10, 11]
def f_log_Log_Append.last12 : List Nat := [9, 10, 11]
noncomputable abbrev f_pool_Pool_Put.def : Func := Go.Proofs.Tryz.f64
theorem f_pool_Pool_Put.fn : prog.funcs[f_pool_Pool_Put]? = some f_pool_Pool_Put.def := Go.Proofs.Tryz.func64
theorem f_pool_Pool_Put.ok : Callable prog f_pool_Pool_Put := callable_of Go.Proofs.Tryz.func64 (by kernel_rfl) rfl
def f_pool_Pool_Put.live : Nat → Option (List Nat) := fun i => match i with
  | 0 => some [0, 3]
  | 1 => some [4]
  | _ => none
theorem f_pool_Pool_Put.does {W : World} {H : HProp} {R : Ending → HProp → Prop} (a0 a1 : Value) (h : exec prog W tab 11 f_pool_Pool_Put.live (codeOf Go.Proofs.Tryz.f64) (bodyQ prog W tab [.tmp 4] R) (argFr 0 [a0, a1]) [] H) : Does prog W f_pool_Pool_Put ⟨[a0, a1]⟩ H R :=
  Does.of_exec tab_ok f_pool_Pool_Put.live Go.Proofs.Tryz.func64 rfl rfl rfl (by simp) h
def f_pool_Pool_Put.plan1 : List Nat := [0, 1, 2, 3, 4, 5, 6]
def f_pool_Pool_Put.last1 : List Nat := [5, 6]
noncomputable abbrev f_log_Log_Forced.def : Func := Go.Proofs.Tryz.f65
theorem f_log_Log_Forced.fn : prog.funcs[f_log_Log_Forced]? = some f_log_Log_Forced.def := Go.Proofs.Tryz.func65
theorem f_log_Log_Forced.ok : Callable prog f_log_Log_Forced := callable_of Go.Proofs.Tryz.func65 (by kernel_rfl) rfl
def f_log_Log_Forced.live : Nat → Option (List Nat) := fun i => match i with
  | 0 => some [0]
  | 1 => some [2]
  | _ => none
theorem f_log_Log_Forced.does {W : World} {H : HProp} {R : Ending → HProp → Prop} (a0 : Value) (h : exec prog W tab 7 f_log_Log_Forced.live (codeOf Go.Proofs.Tryz.f65) (bodyQ prog W tab [.tmp 2] R) (argFr 0 [a0]) [] H) : Does prog W f_log_Log_Forced ⟨[a0]⟩ H R :=
  Does.of_exec tab_ok f_log_Log_Forced.live Go.Proofs.Tryz.func65 rfl rfl rfl (by simp) h
noncomputable abbrev f_master_Need.def : Func := Go.Proofs.Tryz.f67
theorem f_master_Need.fn : prog.funcs[f_master_Need]? = some f_master_Need.def := Go.Proofs.Tryz.func67
theorem f_master_Need.ok : Callable prog f_master_Need := callable_of Go.Proofs.Tryz.func67 (by kernel_rfl) rfl
def f_master_Need.live : Nat → Option (List Nat) := fun i => match i with
  | 0 => some [1]
  | 1 => some [1, 6]
  | 2 => some [2, 3]
  | 3 => some [2, 3]
  | _ => none
theorem f_master_Need.does {W : World} {H : HProp} {R : Ending → HProp → Prop} (a0 : Value) (h : exec prog W tab 14 f_master_Need.live (codeOf Go.Proofs.Tryz.f67) (bodyQ prog W tab [.tmp 2, .tmp 3] R) (argFr 0 [a0]) [] H) : Does prog W f_master_Need ⟨[a0]⟩ H R :=
  Does.of_exec tab_ok f_master_Need.live Go.Proofs.Tryz.func67 rfl rfl rfl (by simp) h
noncomputable abbrev f_master_Log.def : Func := Go.Proofs.Tryz.f68
theorem f_master_Log.fn : prog.funcs[f_master_Log]? = some f_master_Log.def := Go.Proofs.Tryz.func68
theorem f_master_Log.ok : Callable prog f_master_Log := callable_of Go.Proofs.Tryz.func68 (by kernel_rfl) rfl
def f_master_Log.live : Nat → Option (List Nat) := fun i => match i with
  | 0 => some [1]
  | 1 => some [1, 6]
  | 2 => some [2, 3]
  | 3 => some [2, 3]
  | _ => none
theorem f_master_Log.does {W : World} {H : HProp} {R : Ending → HProp → Prop} (a0 : Value) (h : exec prog W tab 11 f_master_Log.live (codeOf Go.Proofs.Tryz.f68) (bodyQ prog W tab [.tmp 2, .tmp 3] R) (argFr 0 [a0]) [] H) : Does prog W f_master_Log ⟨[a0]⟩ H R :=
  Does.of_exec tab_ok f_master_Log.live Go.Proofs.Tryz.func68 rfl rfl rfl (by simp) h
noncomputable abbrev f_pool_Pool_Pin.def : Func := Go.Proofs.Tryz.f69
theorem f_pool_Pool_Pin.fn : prog.funcs[f_pool_Pool_Pin]? = some f_pool_Pool_Pin.def := Go.Proofs.Tryz.func69
theorem f_pool_Pool_Pin.ok : Callable prog f_pool_Pool_Pin := callable_of Go.Proofs.Tryz.func69 (by kernel_rfl) rfl
def f_pool_Pool_Pin.live : Nat → Option (List Nat) := fun i => match i with
  | 0 => some [0, 1]
  | 1 => some [1, 5, 6]
  | 2 => some [1, 5, 6, 14]
  | 3 => some [1, 6]
  | 4 => some [4]
  | _ => none
theorem f_pool_Pool_Pin.does {W : World} {H : HProp} {R : Ending → HProp → Prop} (a0 a1 : Value) (h : exec prog W tab 25 f_pool_Pool_Pin.live (codeOf Go.Proofs.Tryz.f69) (bodyQ prog W tab [.tmp 4] R) (argFr 0 [a0, a1]) [] H) : Does prog W f_pool_Pool_Pin ⟨[a0, a1]⟩ H R :=
  Does.of_exec tab_ok f_pool_Pool_Pin.live Go.Proofs.Tryz.func69 rfl rfl rfl (by simp) h
noncomputable abbrev f_pool_Pool_Flush.def : Func := Go.Proofs.Tryz.f72
theorem f_pool_Pool_Flush.fn : prog.funcs[f_pool_Pool_Flush]? = some f_pool_Pool_Flush.def := Go.Proofs.Tryz.func72
theorem f_pool_Pool_Flush.ok : Callable prog f_pool_Pool_Flush := callable_of Go.Proofs.Tryz.func72 (by kernel_rfl) rfl
def f_pool_Pool_Flush.live : Nat → Option (List Nat) := fun i => match i with
  | 0 => some [0, 1]
  | 1 => some [0, 1, 6]
  | 2 => some [0, 1, 6, 14]
  | 3 => some [1, 6]
  | 4 => some [4]
  | _ => none
theorem f_pool_Pool_Flush.does {W : World} {H : HProp} {R : Ending → HProp → Prop} (a0 a1 : Value) (h : exec prog W tab 21 f_pool_Pool_Flush.live (codeOf Go.Proofs.Tryz.f72) (bodyQ prog W tab [.tmp 4] R) (argFr 0 [a0, a1]) [] H) : Does prog W f_pool_Pool_Flush ⟨[a0, a1]⟩ H R :=
  Does.of_exec tab_ok f_pool_Pool_Flush.live Go.Proofs.Tryz.func72 rfl rfl rfl (by simp) h
noncomputable abbrev f_log_Log_Force.def : Func := Go.Proofs.Tryz.f73
theorem f_log_Log_Force.fn : prog.funcs[f_log_Log_Force]? = some f_log_Log_Force.def := Go.Proofs.Tryz.func73
theorem f_log_Log_Force.ok : Callable prog f_log_Log_Force := callable_of Go.Proofs.Tryz.func73 (by kernel_rfl) rfl
def f_log_Log_Force.live : Nat → Option (List Nat) := fun i => match i with
  | 0 => some [2, 3]
  | 1 => some [2, 3, 10]
  | 2 => some [4]
  | 3 => some [2, 3, 25]
  | 4 => some [4]
  | 5 => some [2, 3, 35]
  | 6 => some [4]
  | 7 => some [2, 3, 5]
  | 8 => some [2, 3, 5, 39]
  | 9 => some [5]
  | 10 => some [4]
  | 11 => some [2, 3]
  | 12 => some []
  | 13 => some [4]
  | _ => none
theorem f_log_Log_Force.does {W : World} {H : HProp} {R : Ending → HProp → Prop} (a0 a1 : Value) (h : exec prog W tab 63 f_log_Log_Force.live (codeOf Go.Proofs.Tryz.f73) (bodyQ prog W tab [.tmp 4] R) (argFr 0 [a0, a1]) [] H) : Does prog W f_log_Log_Force ⟨[a0, a1]⟩ H R :=
  Does.of_exec tab_ok f_log_Log_Force.live Go.Proofs.Tryz.func73 rfl rfl rfl (by simp) h
def f_log_Log_Force.plan3 : List Nat := [0, 1, 2, 3, 4, 5, 6, 7, 8, 9, 10]
def f_log_Log_Force.last3 : List Nat := [9, 10]
def f_log_Log_Force.plan5 : List Nat := [0, 1, 2, 3, 4, 5]
def f_log_Log_Force.last5 : List Nat := [5]
def f_log_Log_Force.plan11 : List Nat := [0, 1, 2, 3, 4, 5, 6, 7, 8, 9, 10, 11, 12, 13, 14]
def f_log_Log_Force.last11 : List Nat := [12, 13, 14]
noncomputable abbrev f_pool_Pool_place.def : Func := Go.Proofs.Tryz.f74
theorem f_pool_Pool_place.fn : prog.funcs[f_pool_Pool_place]? = some f_pool_Pool_place.def := Go.Proofs.Tryz.func74
theorem f_pool_Pool_place.ok : Callable prog f_pool_Pool_place := callable_of Go.Proofs.Tryz.func74 (by kernel_rfl) rfl
def f_pool_Pool_place.live : Nat → Option (List Nat) := fun i => match i with
  | 0 => some [0, 1]
  | 1 => some [0, 1, 8]
  | 2 => some [4]
  | 3 => some [19]
  | 4 => some [4]
  | 5 => some [4]
  | _ => none
theorem f_pool_Pool_place.does {W : World} {H : HProp} {R : Ending → HProp → Prop} (a0 a1 : Value) (h : exec prog W tab 20 f_pool_Pool_place.live (codeOf Go.Proofs.Tryz.f74) (bodyQ prog W tab [.tmp 4] R) (argFr 0 [a0, a1]) [] H) : Does prog W f_pool_Pool_place ⟨[a0, a1]⟩ H R :=
  Does.of_exec tab_ok f_pool_Pool_place.live Go.Proofs.Tryz.func74 rfl rfl rfl (by simp) h
noncomputable abbrev f_pool_Pool_there.def : Func := Go.Proofs.Tryz.f75
theorem f_pool_Pool_there.fn : prog.funcs[f_pool_Pool_there]? = some f_pool_Pool_there.def := Go.Proofs.Tryz.func75
theorem f_pool_Pool_there.ok : Callable prog f_pool_Pool_there := callable_of Go.Proofs.Tryz.func75 (by kernel_rfl) rfl
def f_pool_Pool_there.live : Nat → Option (List Nat) := fun i => match i with
  | 0 => some [0, 1]
  | 1 => some [0, 1, 6]
  | 2 => some [0, 1, 6, 12]
  | 3 => some [4, 5]
  | 4 => some [7]
  | 5 => some [7, 21]
  | 6 => some [4, 5]
  | 7 => some [4, 5]
  | _ => none
theorem f_pool_Pool_there.does {W : World} {H : HProp} {R : Ending → HProp → Prop} (a0 a1 : Value) (h : exec prog W tab 23 f_pool_Pool_there.live (codeOf Go.Proofs.Tryz.f75) (bodyQ prog W tab [.tmp 4, .tmp 5] R) (argFr 0 [a0, a1]) [] H) : Does prog W f_pool_Pool_there ⟨[a0, a1]⟩ H R :=
  Does.of_exec tab_ok f_pool_Pool_there.live Go.Proofs.Tryz.func75 rfl rfl rfl (by simp) h
noncomputable abbrev f_pool_Pool_leave.def : Func := Go.Proofs.Tryz.f76
theorem f_pool_Pool_leave.fn : prog.funcs[f_pool_Pool_leave]? = some f_pool_Pool_leave.def := Go.Proofs.Tryz.func76
theorem f_pool_Pool_leave.ok : Callable prog f_pool_Pool_leave := callable_of Go.Proofs.Tryz.func76 (by kernel_rfl) rfl
def f_pool_Pool_leave.live : Nat → Option (List Nat) := fun i => match i with
  | 0 => some [0, 1]
  | 1 => some [0, 1, 5]
  | 2 => some [0, 1, 5, 10]
  | 3 => some [4]
  | 4 => some []
  | 5 => some [4]
  | _ => none
theorem f_pool_Pool_leave.does {W : World} {H : HProp} {R : Ending → HProp → Prop} (a0 a1 : Value) (h : exec prog W tab 17 f_pool_Pool_leave.live (codeOf Go.Proofs.Tryz.f76) (bodyQ prog W tab [.tmp 4] R) (argFr 0 [a0, a1]) [] H) : Does prog W f_pool_Pool_leave ⟨[a0, a1]⟩ H R :=
  Does.of_exec tab_ok f_pool_Pool_leave.live Go.Proofs.Tryz.func76 rfl rfl rfl (by simp) h
noncomputable abbrev f_pool_result.def : Func := Go.Proofs.Tryz.f77
theorem f_pool_result.fn : prog.funcs[f_pool_result]? = some f_pool_result.def := Go.Proofs.Tryz.func77
theorem f_pool_result.ok : Callable prog f_pool_result := callable_of Go.Proofs.Tryz.func77 (by kernel_rfl) rfl
def f_pool_result.live : Nat → Option (List Nat) := fun i => match i with
  | 0 => some [0, 1, 2]
  | 1 => some [0, 1, 2, 8]
  | 2 => some [6]
  | 3 => some [6]
  | _ => none
theorem f_pool_result.does {W : World} {H : HProp} {R : Ending → HProp → Prop} (a0 a1 a2 : Value) (h : exec prog W tab 16 f_pool_result.live (codeOf Go.Proofs.Tryz.f77) (bodyQ prog W tab [.tmp 6] R) (argFr 0 [a0, a1, a2]) [] H) : Does prog W f_pool_result ⟨[a0, a1, a2]⟩ H R :=
  Does.of_exec tab_ok f_pool_result.live Go.Proofs.Tryz.func77 rfl rfl rfl (by simp) h
noncomputable abbrev f_errors_As.def : Func := Go.Proofs.Tryz.f78
theorem f_errors_As.fn : prog.funcs[f_errors_As]? = some f_errors_As.def := Go.Proofs.Tryz.func78
theorem f_errors_As.ok : Callable prog f_errors_As := callable_of Go.Proofs.Tryz.func78 (by kernel_rfl) rfl
def f_errors_As.live : Nat → Option (List Nat) := fun i => match i with
  | 0 => some [0, 1]
  | 1 => some [0, 1, 9]
  | 2 => some [4]
  | 3 => some [0, 1, 11]
  | 4 => some [0, 1]
  | 5 => some [0, 1, 5]
  | 6 => some [0, 1, 5, 6]
  | 7 => some [0, 1, 5, 6, 23]
  | 8 => some [0, 1, 5, 6]
  | 9 => some [0, 1, 5, 7]
  | 10 => some [0, 1, 5, 7, 35]
  | 11 => some [0, 1, 5, 7]
  | 12 => some [4]
  | _ => none
theorem f_errors_As.does {W : World} {H : HProp} {R : Ending → HProp → Prop} (a0 a1 : Value) (h : exec prog W tab 42 f_errors_As.live (codeOf Go.Proofs.Tryz.f78) (bodyQ prog W tab [.tmp 4] R) (argFr 0 [a0, a1]) [] H) : Does prog W f_errors_As ⟨[a0, a1]⟩ H R :=
  Does.of_exec tab_ok f_errors_As.live Go.Proofs.Tryz.func78 rfl rfl rfl (by simp) h
noncomputable abbrev f_master_may.def : Func := Go.Proofs.Tryz.f79
theorem f_master_may.fn : prog.funcs[f_master_may]? = some f_master_may.def := Go.Proofs.Tryz.func79
theorem f_master_may.ok : Callable prog f_master_may := callable_of Go.Proofs.Tryz.func79 (by kernel_rfl) rfl
def f_master_may.live : Nat → Option (List Nat) := fun i => match i with
  | 0 => some [1]
  | 1 => some [2]
  | _ => none
theorem f_master_may.does {W : World} {H : HProp} {R : Ending → HProp → Prop} (a0 : Value) (h : exec prog W tab 31 f_master_may.live (codeOf Go.Proofs.Tryz.f79) (bodyQ prog W tab [.tmp 2] R) (argFr 0 [a0]) [] H) : Does prog W f_master_may ⟨[a0]⟩ H R :=
  Does.of_exec tab_ok f_master_may.live Go.Proofs.Tryz.func79 rfl rfl rfl (by simp) h
noncomputable abbrev f_twin_Read_1.def : Func := Go.Proofs.Tryz.f80
theorem f_twin_Read_1.fn : prog.funcs[f_twin_Read_1]? = some f_twin_Read_1.def := Go.Proofs.Tryz.func80
theorem f_twin_Read_1.ok : Callable prog f_twin_Read_1 := callable_of Go.Proofs.Tryz.func80 (by kernel_rfl) rfl
def f_twin_Read_1.live : Nat → Option (List Nat) := fun i => match i with
  | 0 => some []
  | _ => none
theorem f_twin_Read_1.does {W : World} {H : HProp} {R : Ending → HProp → Prop} (a0 : Value) (h : exec prog W tab 3 f_twin_Read_1.live (codeOf Go.Proofs.Tryz.f80) (bodyQ prog W tab [] R) (argFr 0 [a0]) [] H) : Does prog W f_twin_Read_1 ⟨[a0]⟩ H R :=
  Does.of_exec tab_ok f_twin_Read_1.live Go.Proofs.Tryz.func80 rfl rfl rfl (by simp) h
noncomputable abbrev f_twin_told.def : Func := Go.Proofs.Tryz.f81
theorem f_twin_told.fn : prog.funcs[f_twin_told]? = some f_twin_told.def := Go.Proofs.Tryz.func81
theorem f_twin_told.ok : Callable prog f_twin_told := callable_of Go.Proofs.Tryz.func81 (by kernel_rfl) rfl
def f_twin_told.live : Nat → Option (List Nat) := fun i => match i with
  | 0 => some [0, 1, 4]
  | 1 => some [0, 1, 4, 7]
  | 2 => some [0, 1, 4, 7, 8]
  | 3 => some []
  | 4 => some [4]
  | 5 => some [0, 1, 4, 10, 11]
  | 6 => some [0, 6]
  | 7 => some [4]
  | 8 => some [4]
  | _ => none
theorem f_twin_told.does {W : World} {H : HProp} {R : Ending → HProp → Prop} (a0 a1 : Value) (h : exec prog W tab 20 f_twin_told.live (codeOf Go.Proofs.Tryz.f81) (bodyQ prog W tab [.tmp 4] R) (argFr 0 [a0, a1]) [] H) : Does prog W f_twin_told ⟨[a0, a1]⟩ H R :=
  Does.of_exec tab_ok f_twin_told.live Go.Proofs.Tryz.func81 rfl rfl rfl (by simp) h
noncomputable abbrev f_twin_running.def : Func := Go.Proofs.Tryz.f82
theorem f_twin_running.fn : prog.funcs[f_twin_running]? = some f_twin_running.def := Go.Proofs.Tryz.func82
theorem f_twin_running.ok : Callable prog f_twin_running := callable_of Go.Proofs.Tryz.func82 (by kernel_rfl) rfl
def f_twin_running.live : Nat → Option (List Nat) := fun i => match i with
  | 0 => some [0]
  | 1 => some []
  | _ => none
theorem f_twin_running.does {W : World} {H : HProp} {R : Ending → HProp → Prop} (a0 : Value) (h : exec prog W tab 9 f_twin_running.live (codeOf Go.Proofs.Tryz.f82) (bodyQ prog W tab [] R) (argFr 0 [a0]) [] H) : Does prog W f_twin_running ⟨[a0]⟩ H R :=
  Does.of_exec tab_ok f_twin_running.live Go.Proofs.Tryz.func82 rfl rfl rfl (by simp) h
noncomputable abbrev f_twin_need.def : Func := Go.Proofs.Tryz.f83
theorem f_twin_need.fn : prog.funcs[f_twin_need]? = some f_twin_need.def := Go.Proofs.Tryz.func83
theorem f_twin_need.ok : Callable prog f_twin_need := callable_of Go.Proofs.Tryz.func83 (by kernel_rfl) rfl
def f_twin_need.live : Nat → Option (List Nat) := fun i => match i with
  | 0 => some [1, 5]
  | 1 => some []
  | _ => none
theorem f_twin_need.does {W : World} {H : HProp} {R : Ending → HProp → Prop} (a0 a1 : Value) (h : exec prog W tab 9 f_twin_need.live (codeOf Go.Proofs.Tryz.f83) (bodyQ prog W tab [] R) (argFr 0 [a0, a1]) [] H) : Does prog W f_twin_need ⟨[a0, a1]⟩ H R :=
  Does.of_exec tab_ok f_twin_need.live Go.Proofs.Tryz.func83 rfl rfl rfl (by simp) h
noncomputable abbrev f_twin_there.def : Func := Go.Proofs.Tryz.f84
theorem f_twin_there.fn : prog.funcs[f_twin_there]? = some f_twin_there.def := Go.Proofs.Tryz.func84
theorem f_twin_there.ok : Callable prog f_twin_there := callable_of Go.Proofs.Tryz.func84 (by kernel_rfl) rfl
def f_twin_there.live : Nat → Option (List Nat) := fun i => match i with
  | 0 => some [0, 1, 2]
  | 1 => some [6]
  | _ => none
theorem f_twin_there.does {W : World} {H : HProp} {R : Ending → HProp → Prop} (a0 a1 a2 : Value) (h : exec prog W tab 23 f_twin_there.live (codeOf Go.Proofs.Tryz.f84) (bodyQ prog W tab [.tmp 6] R) (argFr 0 [a0, a1, a2]) [] H) : Does prog W f_twin_there ⟨[a0, a1, a2]⟩ H R :=
  Does.of_exec tab_ok f_twin_there.live Go.Proofs.Tryz.func84 rfl rfl rfl (by simp) h
noncomputable abbrev f_twin_get.def : Func := Go.Proofs.Tryz.f85
theorem f_twin_get.fn : prog.funcs[f_twin_get]? = some f_twin_get.def := Go.Proofs.Tryz.func85
theorem f_twin_get.ok : Callable prog f_twin_get := callable_of Go.Proofs.Tryz.func85 (by kernel_rfl) rfl
def f_twin_get.live : Nat → Option (List Nat) := fun i => match i with
  | 0 => some [0, 1]
  | 1 => some [5, 6]
  | 2 => some [5]
  | 3 => some [4]
  | _ => none
theorem f_twin_get.does {W : World} {H : HProp} {R : Ending → HProp → Prop} (a0 a1 : Value) (h : exec prog W tab 16 f_twin_get.live (codeOf Go.Proofs.Tryz.f85) (bodyQ prog W tab [.tmp 4] R) (argFr 0 [a0, a1]) [] H) : Does prog W f_twin_get ⟨[a0, a1]⟩ H R :=
  Does.of_exec tab_ok f_twin_get.live Go.Proofs.Tryz.func85 rfl rfl rfl (by simp) h
noncomputable abbrev f_page_in.def : Func := Go.Proofs.Tryz.f86
theorem f_page_in.fn : prog.funcs[f_page_in]? = some f_page_in.def := Go.Proofs.Tryz.func86
theorem f_page_in.ok : Callable prog f_page_in := callable_of Go.Proofs.Tryz.func86 (by kernel_rfl) rfl
def f_page_in.live : Nat → Option (List Nat) := fun i => match i with
  | 0 => some [0, 1, 2]
  | 1 => some [6]
  | _ => none
theorem f_page_in.does {W : World} {H : HProp} {R : Ending → HProp → Prop} (a0 a1 a2 : Value) (h : exec prog W tab 15 f_page_in.live (codeOf Go.Proofs.Tryz.f86) (bodyQ prog W tab [.tmp 6] R) (argFr 0 [a0, a1, a2]) [] H) : Does prog W f_page_in ⟨[a0, a1, a2]⟩ H R :=
  Does.of_exec tab_ok f_page_in.live Go.Proofs.Tryz.func86 rfl rfl rfl (by simp) h
noncomputable abbrev f_page_zeros.def : Func := Go.Proofs.Tryz.f87
theorem f_page_zeros.fn : prog.funcs[f_page_zeros]? = some f_page_zeros.def := Go.Proofs.Tryz.func87
theorem f_page_zeros.ok : Callable prog f_page_zeros := callable_of Go.Proofs.Tryz.func87 (by kernel_rfl) rfl
def f_page_zeros.live : Nat → Option (List Nat) := fun i => match i with
  | 0 => some [0]
  | 1 => some [2]
  | _ => none
theorem f_page_zeros.does {W : World} {H : HProp} {R : Ending → HProp → Prop} (a0 : Value) (h : exec prog W tab 6 f_page_zeros.live (codeOf Go.Proofs.Tryz.f87) (bodyQ prog W tab [.tmp 2] R) (argFr 0 [a0]) [] H) : Does prog W f_page_zeros ⟨[a0]⟩ H R :=
  Does.of_exec tab_ok f_page_zeros.live Go.Proofs.Tryz.func87 rfl rfl rfl (by simp) h
noncomputable abbrev f_page_taken.def : Func := Go.Proofs.Tryz.f88
theorem f_page_taken.fn : prog.funcs[f_page_taken]? = some f_page_taken.def := Go.Proofs.Tryz.func88
theorem f_page_taken.ok : Callable prog f_page_taken := callable_of Go.Proofs.Tryz.func88 (by kernel_rfl) rfl
def f_page_taken.live : Nat → Option (List Nat) := fun i => match i with
  | 0 => some [0, 1, 2]
  | 1 => some [0, 1, 2, 7]
  | 2 => some [0, 1, 7, 12, 13, 14]
  | 3 => some [0, 1, 7, 12, 13, 14, 15]
  | 4 => some [0, 1, 7, 9, 12, 13, 14]
  | 5 => some [0, 1, 7, 9, 10, 12, 13, 14]
  | 6 => some [0, 1, 7, 9, 12, 13, 14]
  | 7 => some [0, 1, 7, 12, 13, 14]
  | 8 => some [0, 1, 7, 12, 13, 14]
  | 9 => some [6]
  | _ => none
theorem f_page_taken.does {W : World} {H : HProp} {R : Ending → HProp → Prop} (a0 a1 a2 : Value) (h : exec prog W tab 34 f_page_taken.live (codeOf Go.Proofs.Tryz.f88) (bodyQ prog W tab [.tmp 6] R) (argFr 0 [a0, a1, a2]) [] H) : Does prog W f_page_taken ⟨[a0, a1, a2]⟩ H R :=
  Does.of_exec tab_ok f_page_taken.live Go.Proofs.Tryz.func88 rfl rfl rfl (by simp) h
noncomputable abbrev f_field_Get.def : Func := Go.Proofs.Tryz.f89
theorem f_field_Get.fn : prog.funcs[f_field_Get]? = some f_field_Get.def := Go.Proofs.Tryz.func89
theorem f_field_Get.ok : Callable prog f_field_Get := callable_of Go.Proofs.Tryz.func89 (by kernel_rfl) rfl
def f_field_Get.live : Nat → Option (List Nat) := fun i => match i with
  | 0 => some [0, 1, 2]
  | 1 => some [0, 1, 2, 15]
  | 2 => some [6, 7]
  | 3 => some [0, 1, 2, 8]
  | 4 => some [0, 1, 8, 16, 17]
  | 5 => some [0, 1, 8, 16, 17, 18]
  | 6 => some [0, 1, 8, 9, 16, 17]
  | 7 => some [0, 1, 8, 16, 17]
  | 8 => some [0, 1, 8, 16, 17]
  | 9 => some [6, 7]
  | _ => none
theorem f_field_Get.does {W : World} {H : HProp} {R : Ending → HProp → Prop} (a0 a1 a2 : Value) (h : exec prog W tab 34 f_field_Get.live (codeOf Go.Proofs.Tryz.f89) (bodyQ prog W tab [.tmp 6, .tmp 7] R) (argFr 0 [a0, a1, a2]) [] H) : Does prog W f_field_Get ⟨[a0, a1, a2]⟩ H R :=
  Does.of_exec tab_ok f_field_Get.live Go.Proofs.Tryz.func89 rfl rfl rfl (by simp) h
noncomputable abbrev f_page_sum.def : Func := Go.Proofs.Tryz.f90
theorem f_page_sum.fn : prog.funcs[f_page_sum]? = some f_page_sum.def := Go.Proofs.Tryz.func90
theorem f_page_sum.ok : Callable prog f_page_sum := callable_of Go.Proofs.Tryz.func90 (by kernel_rfl) rfl
def f_page_sum.live : Nat → Option (List Nat) := fun i => match i with
  | 0 => some [0]
  | 1 => some [2]
  | _ => none
theorem f_page_sum.does {W : World} {H : HProp} {R : Ending → HProp → Prop} (a0 : Value) (h : exec prog W tab 10 f_page_sum.live (codeOf Go.Proofs.Tryz.f90) (bodyQ prog W tab [.tmp 2] R) (argFr 0 [a0]) [] H) : Does prog W f_page_sum ⟨[a0]⟩ H R :=
  Does.of_exec tab_ok f_page_sum.live Go.Proofs.Tryz.func90 rfl rfl rfl (by simp) h
def f_page_sum.plan1 : List Nat := [0, 1, 3, 4, 2, 5, 6, 7]
def f_page_sum.last1 : List Nat := [5, 6, 7]
noncomputable abbrev f_page_Page_contents.def : Func := Go.Proofs.Tryz.f91
theorem f_page_Page_contents.fn : prog.funcs[f_page_Page_contents]? = some f_page_Page_contents.def := Go.Proofs.Tryz.func91
theorem f_page_Page_contents.ok : Callable prog f_page_Page_contents := callable_of Go.Proofs.Tryz.func91 (by kernel_rfl) rfl
def f_page_Page_contents.live : Nat → Option (List Nat) := fun i => match i with
  | 0 => some [1]
  | 1 => some [1, 8, 9, 10]
  | 2 => some [1, 8, 9, 10, 11]
  | 3 => some [1, 4, 8, 9, 10]
  | 4 => some [1, 4, 8, 9, 10, 23]
  | 5 => some [2]
  | 6 => some [1, 8, 9, 10, 30]
  | 7 => some [2]
  | 8 => some [1, 8, 9, 10]
  | 9 => some [33, 34, 35]
  | 10 => some [33, 34, 35, 36]
  | 11 => some [6, 33, 34, 35]
  | 12 => some [33, 34, 35, 42]
  | 13 => some [2]
  | 14 => some [33, 34, 35]
  | 15 => some [2]
  | _ => none
theorem f_page_Page_contents.does {W : World} {H : HProp} {R : Ending → HProp → Prop} (a0 : Value) (h : exec prog W tab 44 f_page_Page_contents.live (codeOf Go.Proofs.Tryz.f91) (bodyQ prog W tab [.tmp 2] R) (argFr 0 [a0]) [] H) : Does prog W f_page_Page_contents ⟨[a0]⟩ H R :=
  Does.of_exec tab_ok f_page_Page_contents.live Go.Proofs.Tryz.func91 rfl rfl rfl (by simp) h
noncomputable abbrev f_slices_Sorted_int.def : Func := Go.Proofs.Tryz.f94
theorem f_slices_Sorted_int.fn : prog.funcs[f_slices_Sorted_int]? = some f_slices_Sorted_int.def := Go.Proofs.Tryz.func94
theorem f_slices_Sorted_int.ok : Callable prog f_slices_Sorted_int := callable_of Go.Proofs.Tryz.func94 (by kernel_rfl) rfl
def f_slices_Sorted_int.live : Nat → Option (List Nat) := fun i => match i with
  | 0 => some [0]
  | 1 => some [3]
  | 2 => some [3]
  | 3 => some [2]
  | _ => none
theorem f_slices_Sorted_int.does {W : World} {H : HProp} {R : Ending → HProp → Prop} (a0 : Value) (h : exec prog W tab 9 f_slices_Sorted_int.live (codeOf Go.Proofs.Tryz.f94) (bodyQ prog W tab [.tmp 2] R) (argFr 0 [a0]) [] H) : Does prog W f_slices_Sorted_int ⟨[a0]⟩ H R :=
  Does.of_exec tab_ok f_slices_Sorted_int.live Go.Proofs.Tryz.func94 rfl rfl rfl (by simp) h
noncomputable abbrev f_maps_Keys_M_int_P_pool_frame_int_P_pool_frame.def : Func := Go.Proofs.Tryz.f95
theorem f_maps_Keys_M_int_P_pool_frame_int_P_pool_frame.fn : prog.funcs[f_maps_Keys_M_int_P_pool_frame_int_P_pool_frame]? = some f_maps_Keys_M_int_P_pool_frame_int_P_pool_frame.def := Go.Proofs.Tryz.func95
theorem f_maps_Keys_M_int_P_pool_frame_int_P_pool_frame.ok : Callable prog f_maps_Keys_M_int_P_pool_frame_int_P_pool_frame := callable_of Go.Proofs.Tryz.func95 (by kernel_rfl) rfl
def f_maps_Keys_M_int_P_pool_frame_int_P_pool_frame.live : Nat → Option (List Nat) := fun i => match i with
  | 0 => some [1]
  | 1 => some [2]
  | _ => none
theorem f_maps_Keys_M_int_P_pool_frame_int_P_pool_frame.does {W : World} {H : HProp} {R : Ending → HProp → Prop} (a0 : Value) (h : exec prog W tab 4 f_maps_Keys_M_int_P_pool_frame_int_P_pool_frame.live (codeOf Go.Proofs.Tryz.f95) (bodyQ prog W tab [.tmp 2] R) (argFr 0 [a0]) [] H) : Does prog W f_maps_Keys_M_int_P_pool_frame_int_P_pool_frame ⟨[a0]⟩ H R :=
  Does.of_exec tab_ok f_maps_Keys_M_int_P_pool_frame_int_P_pool_frame.live Go.Proofs.Tryz.func95 rfl rfl rfl (by simp) h
noncomputable abbrev f_pool_Pool_get.def : Func := Go.Proofs.Tryz.f96
theorem f_pool_Pool_get.fn : prog.funcs[f_pool_Pool_get]? = some f_pool_Pool_get.def := Go.Proofs.Tryz.func96
theorem f_pool_Pool_get.ok : Callable prog f_pool_Pool_get := callable_of Go.Proofs.Tryz.func96 (by kernel_rfl) rfl
def f_pool_Pool_get.live : Nat → Option (List Nat) := fun i => match i with
  | 0 => some [0, 1]
  | 1 => some [0, 1, 6]
  | 2 => some [0, 1, 6, 22]
  | 3 => some [4, 5]
  | 4 => some [0, 1, 7]
  | 5 => some [0, 1, 7, 31]
  | 6 => some [7]
  | 7 => some [4, 5]
  | 8 => some [0, 1, 46]
  | 9 => some [0, 1, 8, 9]
  | 10 => some [0, 1, 8, 53]
  | 11 => some [4, 5]
  | 12 => some [0, 1, 10]
  | 13 => some [0, 1, 10, 58]
  | 14 => some [4, 5]
  | 15 => some [0, 1, 11, 12]
  | 16 => some [0, 1, 11, 12, 70]
  | 17 => some [4, 5]
  | 18 => some [0, 1, 13, 14]
  | 19 => some [0, 1, 13, 15]
  | 20 => some [0, 1, 13, 15, 85]
  | 21 => some [4, 5]
  | 22 => some [0, 1, 12, 16]
  | 23 => some [0, 1, 12, 16, 94]
  | 24 => some [4, 5]
  | 25 => some [0, 1, 17]
  | 26 => some [0, 17]
  | 27 => some [17]
  | 28 => some [4, 5]
  | _ => none
theorem f_pool_Pool_get.does {W : World} {H : HProp} {R : Ending → HProp → Prop} (a0 a1 : Value) (h : exec prog W tab 109 f_pool_Pool_get.live (codeOf Go.Proofs.Tryz.f96) (bodyQ prog W tab [.tmp 4, .tmp 5] R) (argFr 0 [a0, a1]) [] H) : Does prog W f_pool_Pool_get ⟨[a0, a1]⟩ H R :=
  Does.of_exec tab_ok f_pool_Pool_get.live Go.Proofs.Tryz.func96 rfl rfl rfl (by simp) h
def f_pool_Pool_get.plan8 : List Nat := [0, 1, 2, 3, 4, 5, 6, 7, 8, 9, 10]
def f_pool_Pool_get.last8 : List Nat := [10]
noncomputable abbrev f_page_Page_Copy.def : Func := Go.Proofs.Tryz.f97
theorem f_page_Page_Copy.fn : prog.funcs[f_page_Page_Copy]? = some f_page_Page_Copy.def := Go.Proofs.Tryz.func97
theorem f_page_Page_Copy.ok : Callable prog f_page_Page_Copy := callable_of Go.Proofs.Tryz.func97 (by kernel_rfl) rfl
def f_page_Page_Copy.live : Nat → Option (List Nat) := fun i => match i with
  | 0 => some [1, 2]
  | 1 => some [1, 2, 3]
  | 2 => some [2, 3]
  | 3 => some [2]
  | _ => none
theorem f_page_Page_Copy.does {W : World} {H : HProp} {R : Ending → HProp → Prop} (a0 : Value) (h : exec prog W tab 14 f_page_Page_Copy.live (codeOf Go.Proofs.Tryz.f97) (bodyQ prog W tab [.cell 2 57] R) (argFr 0 [a0]) [] H) : Does prog W f_page_Page_Copy ⟨[a0]⟩ H R :=
  Does.of_exec tab_ok f_page_Page_Copy.live Go.Proofs.Tryz.func97 rfl rfl rfl (by simp) h
def f_page_Page_Copy.plan2 : List Nat := [0, 1, 3, 4, 2, 6, 5, 7, 8, 9]
def f_page_Page_Copy.last2 : List Nat := [7, 8, 9]
noncomputable abbrev f_sectors_Device_Calls.def : Func := Go.Proofs.Tryz.f116
theorem f_sectors_Device_Calls.fn : prog.funcs[f_sectors_Device_Calls]? = some f_sectors_Device_Calls.def := Go.Proofs.Tryz.func116
theorem f_sectors_Device_Calls.ok : Callable prog f_sectors_Device_Calls := callable_of Go.Proofs.Tryz.func116 (by kernel_rfl) rfl
def f_sectors_Device_Calls.live : Nat → Option (List Nat) := fun i => match i with
  | 0 => some [0]
  | 1 => some [2]
  | _ => none
theorem f_sectors_Device_Calls.does {W : World} {H : HProp} {R : Ending → HProp → Prop} (a0 : Value) (h : exec prog W tab 7 f_sectors_Device_Calls.live (codeOf Go.Proofs.Tryz.f116) (bodyQ prog W tab [.tmp 2] R) (argFr 0 [a0]) [] H) : Does prog W f_sectors_Device_Calls ⟨[a0]⟩ H R :=
  Does.of_exec tab_ok f_sectors_Device_Calls.live Go.Proofs.Tryz.func116 rfl rfl rfl (by simp) h
noncomputable abbrev f_sectors_Device_Cache.def : Func := Go.Proofs.Tryz.f121
theorem f_sectors_Device_Cache.fn : prog.funcs[f_sectors_Device_Cache]? = some f_sectors_Device_Cache.def := Go.Proofs.Tryz.func121
theorem f_sectors_Device_Cache.ok : Callable prog f_sectors_Device_Cache := callable_of Go.Proofs.Tryz.func121 (by kernel_rfl) rfl
def f_sectors_Device_Cache.live : Nat → Option (List Nat) := fun i => match i with
  | 0 => some [0]
  | 1 => some [0, 3]
  | 2 => some [3, 9, 10, 11]
  | 3 => some [3, 9, 10, 11, 12]
  | 4 => some [3, 5, 9, 10, 11]
  | 5 => some [3, 9, 10, 11]
  | 6 => some [3, 9, 10, 11]
  | 7 => some [2]
  | _ => none
theorem f_sectors_Device_Cache.does {W : World} {H : HProp} {R : Ending → HProp → Prop} (a0 : Value) (h : exec prog W tab 26 f_sectors_Device_Cache.live (codeOf Go.Proofs.Tryz.f121) (bodyQ prog W tab [.tmp 2] R) (argFr 0 [a0]) [] H) : Does prog W f_sectors_Device_Cache ⟨[a0]⟩ H R :=
  Does.of_exec tab_ok f_sectors_Device_Cache.live Go.Proofs.Tryz.func121 rfl rfl rfl (by simp) h
def f_sectors_Device_Cache.plan5 : List Nat := [0, 1, 2, 3, 4, 5, 6, 7, 8, 9]
def f_sectors_Device_Cache.last5 : List Nat := [8, 9]
noncomputable abbrev f_slices_Clone_S_uint64_uint64.def : Func := Go.Proofs.Tryz.f123
theorem f_slices_Clone_S_uint64_uint64.fn : prog.funcs[f_slices_Clone_S_uint64_uint64]? = some f_slices_Clone_S_uint64_uint64.def := Go.Proofs.Tryz.func123
theorem f_slices_Clone_S_uint64_uint64.ok : Callable prog f_slices_Clone_S_uint64_uint64 := callable_of Go.Proofs.Tryz.func123 (by kernel_rfl) rfl
def f_slices_Clone_S_uint64_uint64.live : Nat → Option (List Nat) := fun i => match i with
  | 0 => some [0]
  | 1 => some [0, 4]
  | 2 => some [2]
  | 3 => some [2]
  | _ => none
theorem f_slices_Clone_S_uint64_uint64.does {W : World} {H : HProp} {R : Ending → HProp → Prop} (a0 : Value) (h : exec prog W tab 8 f_slices_Clone_S_uint64_uint64.live (codeOf Go.Proofs.Tryz.f123) (bodyQ prog W tab [.tmp 2] R) (argFr 0 [a0]) [] H) : Does prog W f_slices_Clone_S_uint64_uint64 ⟨[a0]⟩ H R :=
  Does.of_exec tab_ok f_slices_Clone_S_uint64_uint64.live Go.Proofs.Tryz.func123 rfl rfl rfl (by simp) h
noncomputable abbrev f_sectors_Device_fall.def : Func := Go.Proofs.Tryz.f124
theorem f_sectors_Device_fall.fn : prog.funcs[f_sectors_Device_fall]? = some f_sectors_Device_fall.def := Go.Proofs.Tryz.func124
theorem f_sectors_Device_fall.ok : Callable prog f_sectors_Device_fall := callable_of Go.Proofs.Tryz.func124 (by kernel_rfl) rfl
def f_sectors_Device_fall.live : Nat → Option (List Nat) := fun i => match i with
  | 0 => some [0, 3]
  | 1 => some [0, 3, 10, 11, 12]
  | 2 => some [0, 3, 10, 11, 12, 13]
  | 3 => some [0, 3, 5, 6, 10, 11, 12]
  | 4 => some [0, 3, 5, 6, 10, 11, 12, 17]
  | 5 => some [0, 3, 10, 11, 12]
  | 6 => some [0, 3, 6, 10, 11, 12, 28]
  | 7 => some [0, 3, 10, 11, 12]
  | 8 => some [0, 3, 10, 11, 12]
  | 9 => some [0]
  | 10 => some [0]
  | 11 => some [0]
  | 12 => some []
  | 13 => some [4]
  | _ => none
theorem f_sectors_Device_fall.does {W : World} {H : HProp} {R : Ending → HProp → Prop} (a0 a1 : Value) (h : exec prog W tab 59 f_sectors_Device_fall.live (codeOf Go.Proofs.Tryz.f124) (bodyQ prog W tab [.tmp 4] R) (argFr 0 [a0, a1]) [] H) : Does prog W f_sectors_Device_fall ⟨[a0, a1]⟩ H R :=
  Does.of_exec tab_ok f_sectors_Device_fall.live Go.Proofs.Tryz.func124 rfl rfl rfl (by simp) h
def f_sectors_Device_fall.plan5 : List Nat := [0, 1, 2, 4, 5, 3, 6]
def f_sectors_Device_fall.last5 : List Nat := [6]
def f_sectors_Device_fall.plan7 : List Nat := [0, 1, 2, 4, 5, 6, 7, 8, 9, 10, 3, 11]
def f_sectors_Device_fall.last7 : List Nat := [11]
noncomputable abbrev f_twin_Finish_1.def : Func := Go.Proofs.Tryz.f125
theorem f_twin_Finish_1.fn : prog.funcs[f_twin_Finish_1]? = some f_twin_Finish_1.def := Go.Proofs.Tryz.func125
theorem f_twin_Finish_1.ok : Callable prog f_twin_Finish_1 := callable_of Go.Proofs.Tryz.func125 (by kernel_rfl) rfl
def f_twin_Finish_1.live : Nat → Option (List Nat) := fun i => match i with
  | 0 => some []
  | _ => none
theorem f_twin_Finish_1.does {W : World} {H : HProp} {R : Ending → HProp → Prop} (a0 : Value) (h : exec prog W tab 3 f_twin_Finish_1.live (codeOf Go.Proofs.Tryz.f125) (bodyQ prog W tab [] R) (argFr 0 [a0]) [] H) : Does prog W f_twin_Finish_1 ⟨[a0]⟩ H R :=
  Does.of_exec tab_ok f_twin_Finish_1.live Go.Proofs.Tryz.func125 rfl rfl rfl (by simp) h
noncomputable abbrev f_slices_ContainsFunc_S_byte_byte.def : Func := Go.Proofs.Tryz.f126
theorem f_slices_ContainsFunc_S_byte_byte.fn : prog.funcs[f_slices_ContainsFunc_S_byte_byte]? = some f_slices_ContainsFunc_S_byte_byte.def := Go.Proofs.Tryz.func126
theorem f_slices_ContainsFunc_S_byte_byte.ok : Callable prog f_slices_ContainsFunc_S_byte_byte := callable_of Go.Proofs.Tryz.func126 (by kernel_rfl) rfl
def f_slices_ContainsFunc_S_byte_byte.live : Nat → Option (List Nat) := fun i => match i with
  | 0 => some [0, 1]
  | 1 => some [4]
  | _ => none
theorem f_slices_ContainsFunc_S_byte_byte.does {W : World} {H : HProp} {R : Ending → HProp → Prop} (a0 a1 : Value) (h : exec prog W tab 9 f_slices_ContainsFunc_S_byte_byte.live (codeOf Go.Proofs.Tryz.f126) (bodyQ prog W tab [.tmp 4] R) (argFr 0 [a0, a1]) [] H) : Does prog W f_slices_ContainsFunc_S_byte_byte ⟨[a0, a1]⟩ H R :=
  Does.of_exec tab_ok f_slices_ContainsFunc_S_byte_byte.live Go.Proofs.Tryz.func126 rfl rfl rfl (by simp) h
noncomputable abbrev f_twin_Finish_2.def : Func := Go.Proofs.Tryz.f127
theorem f_twin_Finish_2.fn : prog.funcs[f_twin_Finish_2]? = some f_twin_Finish_2.def := Go.Proofs.Tryz.func127
theorem f_twin_Finish_2.ok : Callable prog f_twin_Finish_2 := callable_of Go.Proofs.Tryz.func127 (by kernel_rfl) rfl
def f_twin_Finish_2.live : Nat → Option (List Nat) := fun i => match i with
  | 0 => some [0]
  | 1 => some [2]
  | _ => none
theorem f_twin_Finish_2.does {W : World} {H : HProp} {R : Ending → HProp → Prop} (a0 : Value) (h : exec prog W tab 5 f_twin_Finish_2.live (codeOf Go.Proofs.Tryz.f127) (bodyQ prog W tab [.tmp 2] R) (argFr 0 [a0]) [] H) : Does prog W f_twin_Finish_2 ⟨[a0]⟩ H R :=
  Does.of_exec tab_ok f_twin_Finish_2.live Go.Proofs.Tryz.func127 rfl rfl rfl (by simp) h
noncomputable abbrev f_twin_may.def : Func := Go.Proofs.Tryz.f128
theorem f_twin_may.fn : prog.funcs[f_twin_may]? = some f_twin_may.def := Go.Proofs.Tryz.func128
theorem f_twin_may.ok : Callable prog f_twin_may := callable_of Go.Proofs.Tryz.func128 (by kernel_rfl) rfl
def f_twin_may.live : Nat → Option (List Nat) := fun i => match i with
  | 0 => some [0, 1, 2]
  | 1 => some [6]
  | _ => none
theorem f_twin_may.does {W : World} {H : HProp} {R : Ending → HProp → Prop} (a0 a1 a2 : Value) (h : exec prog W tab 23 f_twin_may.live (codeOf Go.Proofs.Tryz.f128) (bodyQ prog W tab [.tmp 6] R) (argFr 0 [a0, a1, a2]) [] H) : Does prog W f_twin_may ⟨[a0, a1, a2]⟩ H R :=
  Does.of_exec tab_ok f_twin_may.live Go.Proofs.Tryz.func128 rfl rfl rfl (by simp) h
noncomputable abbrev f_twin_put.def : Func := Go.Proofs.Tryz.f129
theorem f_twin_put.fn : prog.funcs[f_twin_put]? = some f_twin_put.def := Go.Proofs.Tryz.func129
theorem f_twin_put.ok : Callable prog f_twin_put := callable_of Go.Proofs.Tryz.func129 (by kernel_rfl) rfl
def f_twin_put.live : Nat → Option (List Nat) := fun i => match i with
  | 0 => some [0, 1, 2, 6]
  | 1 => some [0, 1, 2, 6, 11]
  | 2 => some [0, 1, 2, 6]
  | 3 => some [0, 1, 2, 6]
  | 4 => some []
  | _ => none
theorem f_twin_put.does {W : World} {H : HProp} {R : Ending → HProp → Prop} (a0 a1 a2 : Value) (h : exec prog W tab 30 f_twin_put.live (codeOf Go.Proofs.Tryz.f129) (bodyQ prog W tab [] R) (argFr 0 [a0, a1, a2]) [] H) : Does prog W f_twin_put ⟨[a0, a1, a2]⟩ H R :=
  Does.of_exec tab_ok f_twin_put.live Go.Proofs.Tryz.func129 rfl rfl rfl (by simp) h
noncomputable abbrev f_sectors_Load.def : Func := Go.Proofs.Tryz.f130
theorem f_sectors_Load.fn : prog.funcs[f_sectors_Load]? = some f_sectors_Load.def := Go.Proofs.Tryz.func130
theorem f_sectors_Load.ok : Callable prog f_sectors_Load := callable_of Go.Proofs.Tryz.func130 (by kernel_rfl) rfl
def f_sectors_Load.live : Nat → Option (List Nat) := fun i => match i with
  | 0 => some [0]
  | 1 => some [0, 17]
  | 2 => some [2, 3]
  | 3 => some [2, 3]
  | _ => none
theorem f_sectors_Load.does {W : World} {H : HProp} {R : Ending → HProp → Prop} (a0 : Value) (h : exec prog W tab 22 f_sectors_Load.live (codeOf Go.Proofs.Tryz.f130) (bodyQ prog W tab [.tmp 2, .tmp 3] R) (argFr 0 [a0]) [] H) : Does prog W f_sectors_Load ⟨[a0]⟩ H R :=
  Does.of_exec tab_ok f_sectors_Load.live Go.Proofs.Tryz.func130 rfl rfl rfl (by simp) h
noncomputable abbrev f_slices_Clip_S_byte_byte.def : Func := Go.Proofs.Tryz.f131
theorem f_slices_Clip_S_byte_byte.fn : prog.funcs[f_slices_Clip_S_byte_byte]? = some f_slices_Clip_S_byte_byte.def := Go.Proofs.Tryz.func131
theorem f_slices_Clip_S_byte_byte.ok : Callable prog f_slices_Clip_S_byte_byte := callable_of Go.Proofs.Tryz.func131 (by kernel_rfl) rfl
def f_slices_Clip_S_byte_byte.live : Nat → Option (List Nat) := fun i => match i with
  | 0 => some [0]
  | 1 => some [2]
  | _ => none
theorem f_slices_Clip_S_byte_byte.does {W : World} {H : HProp} {R : Ending → HProp → Prop} (a0 : Value) (h : exec prog W tab 9 f_slices_Clip_S_byte_byte.live (codeOf Go.Proofs.Tryz.f131) (bodyQ prog W tab [.tmp 2] R) (argFr 0 [a0]) [] H) : Does prog W f_slices_Clip_S_byte_byte ⟨[a0]⟩ H R :=
  Does.of_exec tab_ok f_slices_Clip_S_byte_byte.live Go.Proofs.Tryz.func131 rfl rfl rfl (by simp) h
noncomputable abbrev f_bytes_Clone.def : Func := Go.Proofs.Tryz.f132
theorem f_bytes_Clone.fn : prog.funcs[f_bytes_Clone]? = some f_bytes_Clone.def := Go.Proofs.Tryz.func132
theorem f_bytes_Clone.ok : Callable prog f_bytes_Clone := callable_of Go.Proofs.Tryz.func132 (by kernel_rfl) rfl
def f_bytes_Clone.live : Nat → Option (List Nat) := fun i => match i with
  | 0 => some [0]
  | 1 => some [0, 4]
  | 2 => some [2]
  | 3 => some [2]
  | _ => none
theorem f_bytes_Clone.does {W : World} {H : HProp} {R : Ending → HProp → Prop} (a0 : Value) (h : exec prog W tab 8 f_bytes_Clone.live (codeOf Go.Proofs.Tryz.f132) (bodyQ prog W tab [.tmp 2] R) (argFr 0 [a0]) [] H) : Does prog W f_bytes_Clone ⟨[a0]⟩ H R :=
  Does.of_exec tab_ok f_bytes_Clone.live Go.Proofs.Tryz.func132 rfl rfl rfl (by simp) h
noncomputable abbrev f_log_caught.def : Func := Go.Proofs.Tryz.f155
theorem f_log_caught.fn : prog.funcs[f_log_caught]? = some f_log_caught.def := Go.Proofs.Tryz.func155
theorem f_log_caught.ok : Callable prog f_log_caught := callable_of Go.Proofs.Tryz.func155 (by kernel_rfl) rfl
def f_log_caught.live : Nat → Option (List Nat) := fun i => match i with
  | 0 => some [1, 2, 4]
  | 1 => some [1, 4]
  | 2 => some [4]
  | 3 => some [4]
  | _ => none
theorem f_log_caught.does {W : World} {H : HProp} {R : Ending → HProp → Prop} (a0 a1 : Value) (h : exec prog W tab 8 f_log_caught.live (codeOf Go.Proofs.Tryz.f155) (bodyQ prog W tab [.cell 4 49] R) (argFr 0 [a0, a1]) [] H) : Does prog W f_log_caught ⟨[a0, a1]⟩ H R :=
  Does.of_exec tab_ok f_log_caught.live Go.Proofs.Tryz.func155 rfl rfl rfl (by simp) h
noncomputable abbrev f_log_Open_1.def : Func := Go.Proofs.Tryz.f156
theorem f_log_Open_1.fn : prog.funcs[f_log_Open_1]? = some f_log_Open_1.def := Go.Proofs.Tryz.func156
theorem f_log_Open_1.ok : Callable prog f_log_Open_1 := callable_of Go.Proofs.Tryz.func156 (by kernel_rfl) rfl
def f_log_Open_1.live : Nat → Option (List Nat) := fun i => match i with
  | 0 => some [0, 1, 2, 3, 8]
  | 1 => some [0, 1, 2, 3]
  | 2 => some [0, 1, 2, 3, 12]
  | 3 => some [0, 1, 2, 3]
  | 4 => some [0, 1, 2, 3, 34]
  | 5 => some [0, 1, 2, 3]
  | 6 => some [0, 1, 2, 3, 41]
  | 7 => some [0, 1, 2, 3]
  | 8 => some [0, 1, 2, 3, 4]
  | 9 => some [0, 1, 3, 4, 45, 46]
  | 10 => some [0, 1, 3, 4, 45, 46, 47]
  | 11 => some [0, 1, 3, 4, 5, 45, 46]
  | 12 => some [0, 1, 3, 4, 6, 7, 45, 46]
  | 13 => some [0, 1, 3, 4, 6, 45, 46]
  | 14 => some [0, 1, 3, 4, 45, 46]
  | 15 => some [0, 1, 3, 4, 45, 46]
  | 16 => some [3, 4]
  | 17 => some []
  | _ => none
theorem f_log_Open_1.does {W : World} {H : HProp} {R : Ending → HProp → Prop} (a0 a1 a2 a3 : Value) (h : exec prog W tab 71 f_log_Open_1.live (codeOf Go.Proofs.Tryz.f156) (bodyQ prog W tab [] R) (argFr 0 [a0, a1, a2, a3]) [] H) : Does prog W f_log_Open_1 ⟨[a0, a1, a2, a3]⟩ H R :=
  Does.of_exec tab_ok f_log_Open_1.live Go.Proofs.Tryz.func156 rfl rfl rfl (by simp) h
def f_log_Open_1.plan2 : List Nat := [0, 1, 2, 3, 4, 5, 6, 7, 8, 9, 10, 11, 12, 13, 14, 16, 15, 17, 18, 19, 20]
def f_log_Open_1.last2 : List Nat := [18, 19, 20]
def f_log_Open_1.plan16 : List Nat := [0, 1, 2, 3]
def f_log_Open_1.last16 : List Nat := [3]
noncomputable abbrev f_log_asked.def : Func := Go.Proofs.Tryz.f157
theorem f_log_asked.fn : prog.funcs[f_log_asked]? = some f_log_asked.def := Go.Proofs.Tryz.func157
theorem f_log_asked.ok : Callable prog f_log_asked := callable_of Go.Proofs.Tryz.func157 (by kernel_rfl) rfl
def f_log_asked.live : Nat → Option (List Nat) := fun i => match i with
  | 0 => some [0, 3]
  | 1 => some []
  | _ => none
theorem f_log_asked.does {W : World} {H : HProp} {R : Ending → HProp → Prop} (a0 : Value) (h : exec prog W tab 7 f_log_asked.live (codeOf Go.Proofs.Tryz.f157) (bodyQ prog W tab [] R) (argFr 0 [a0]) [] H) : Does prog W f_log_asked ⟨[a0]⟩ H R :=
  Does.of_exec tab_ok f_log_asked.live Go.Proofs.Tryz.func157 rfl rfl rfl (by simp) h
noncomputable abbrev f_sectors_Device_Sectors.def : Func := Go.Proofs.Tryz.f158
theorem f_sectors_Device_Sectors.fn : prog.funcs[f_sectors_Device_Sectors]? = some f_sectors_Device_Sectors.def := Go.Proofs.Tryz.func158
theorem f_sectors_Device_Sectors.ok : Callable prog f_sectors_Device_Sectors := callable_of Go.Proofs.Tryz.func158 (by kernel_rfl) rfl
def f_sectors_Device_Sectors.live : Nat → Option (List Nat) := fun i => match i with
  | 0 => some [0]
  | 1 => some [2]
  | _ => none
theorem f_sectors_Device_Sectors.does {W : World} {H : HProp} {R : Ending → HProp → Prop} (a0 : Value) (h : exec prog W tab 9 f_sectors_Device_Sectors.live (codeOf Go.Proofs.Tryz.f158) (bodyQ prog W tab [.tmp 2] R) (argFr 0 [a0]) [] H) : Does prog W f_sectors_Device_Sectors ⟨[a0]⟩ H R :=
  Does.of_exec tab_ok f_sectors_Device_Sectors.live Go.Proofs.Tryz.func158 rfl rfl rfl (by simp) h
noncomputable abbrev f_sectors_Device_Sync.def : Func := Go.Proofs.Tryz.f159
theorem f_sectors_Device_Sync.fn : prog.funcs[f_sectors_Device_Sync]? = some f_sectors_Device_Sync.def := Go.Proofs.Tryz.func159
theorem f_sectors_Device_Sync.ok : Callable prog f_sectors_Device_Sync := callable_of Go.Proofs.Tryz.func159 (by kernel_rfl) rfl
def f_sectors_Device_Sync.live : Nat → Option (List Nat) := fun i => match i with
  | 0 => some [0]
  | 1 => some [0, 8]
  | 2 => some [2]
  | 3 => some [0, 10]
  | 4 => some [2]
  | 5 => some [0, 20, 21, 22]
  | 6 => some [0, 20, 21, 22, 23]
  | 7 => some [0, 4, 20, 21, 22]
  | 8 => some [0, 20, 21, 22]
  | 9 => some [0, 20, 21, 22]
  | 10 => some []
  | 11 => some [2]
  | _ => none
theorem f_sectors_Device_Sync.does {W : World} {H : HProp} {R : Ending → HProp → Prop} (a0 : Value) (h : exec prog W tab 37 f_sectors_Device_Sync.live (codeOf Go.Proofs.Tryz.f159) (bodyQ prog W tab [.tmp 2] R) (argFr 0 [a0]) [] H) : Does prog W f_sectors_Device_Sync ⟨[a0]⟩ H R :=
  Does.of_exec tab_ok f_sectors_Device_Sync.live Go.Proofs.Tryz.func159 rfl rfl rfl (by simp) h
def f_sectors_Device_Sync.plan8 : List Nat := [0, 1, 2, 4, 5, 3, 6]
def f_sectors_Device_Sync.last8 : List Nat := [6]
noncomputable abbrev f_sectors_Device_Read.def : Func := Go.Proofs.Tryz.f160
theorem f_sectors_Device_Read.fn : prog.funcs[f_sectors_Device_Read]? = some f_sectors_Device_Read.def := Go.Proofs.Tryz.func160
theorem f_sectors_Device_Read.ok : Callable prog f_sectors_Device_Read := callable_of Go.Proofs.Tryz.func160 (by kernel_rfl) rfl
def f_sectors_Device_Read.live : Nat → Option (List Nat) := fun i => match i with
  | 0 => some [0, 3, 4, 5, 28]
  | 1 => some [0, 3, 4, 5, 8, 28]
  | 2 => some [4, 5]
  | 3 => some [0, 3, 4, 5, 13, 28]
  | 4 => some [4, 5]
  | 5 => some [0, 3, 4, 5, 26, 28]
  | 6 => some [0, 3, 4, 5, 7]
  | 7 => some [0, 3, 4, 5, 7, 32]
  | 8 => some [4, 5]
  | 9 => some [4, 5]
  | _ => none
theorem f_sectors_Device_Read.does {W : World} {H : HProp} {R : Ending → HProp → Prop} (a0 a1 : Value) (h : exec prog W tab 40 f_sectors_Device_Read.live (codeOf Go.Proofs.Tryz.f160) (bodyQ prog W tab [.cell 4 54, .cell 5 46] R) (argFr 0 [a0, a1]) [] H) : Does prog W f_sectors_Device_Read ⟨[a0, a1]⟩ H R :=
  Does.of_exec tab_ok f_sectors_Device_Read.live Go.Proofs.Tryz.func160 rfl rfl rfl (by simp) h
def f_sectors_Device_Read.plan3 : List Nat := [0, 1, 2, 3, 4, 5, 6, 7, 8]
def f_sectors_Device_Read.last3 : List Nat := [6, 7, 8]
noncomputable abbrev f_log_Log_read.def : Func := Go.Proofs.Tryz.f161
theorem f_log_Log_read.fn : prog.funcs[f_log_Log_read]? = some f_log_Log_read.def := Go.Proofs.Tryz.func161
theorem f_log_Log_read.ok : Callable prog f_log_Log_read := callable_of Go.Proofs.Tryz.func161 (by kernel_rfl) rfl
def f_log_Log_read.live : Nat → Option (List Nat) := fun i => match i with
  | 0 => some [0, 8, 9, 10]
  | 1 => some [0, 8, 9, 10, 11]
  | 2 => some [0, 4, 5, 8, 9, 10]
  | 3 => some [0, 4, 6, 7, 8, 9, 10]
  | 4 => some [0, 4, 6, 7, 8, 9, 10]
  | 5 => some [0, 4, 6, 7, 8, 9, 10, 24]
  | 6 => some [0, 4, 6, 7, 8, 9, 10]
  | 7 => some [0, 4, 6, 8, 9, 10, 28]
  | 8 => some [0, 6, 8, 9, 10]
  | 9 => some [0, 8, 9, 10]
  | 10 => some [0, 8, 9, 10]
  | 11 => some []
  | _ => none
theorem f_log_Log_read.does {W : World} {H : HProp} {R : Ending → HProp → Prop} (a0 a1 : Value) (h : exec prog W tab 52 f_log_Log_read.live (codeOf Go.Proofs.Tryz.f161) (bodyQ prog W tab [] R) (argFr 0 [a0, a1]) [] H) : Does prog W f_log_Log_read ⟨[a0, a1]⟩ H R :=
  Does.of_exec tab_ok f_log_Log_read.live Go.Proofs.Tryz.func161 rfl rfl rfl (by simp) h
def f_log_Log_read.plan9 : List Nat := [0, 1, 2, 3, 4, 5, 6, 7, 8, 9, 10]
def f_log_Log_read.last9 : List Nat := [8, 9, 10]
noncomputable abbrev f_log_found.def : Func := Go.Proofs.Tryz.f162
theorem f_log_found.fn : prog.funcs[f_log_found]? = some f_log_found.def := Go.Proofs.Tryz.func162
theorem f_log_found.ok : Callable prog f_log_found := callable_of Go.Proofs.Tryz.func162 (by kernel_rfl) rfl
def f_log_found.live : Nat → Option (List Nat) := fun i => match i with
  | 0 => some [0]
  | 1 => some [0, 3]
  | 2 => some [3, 9, 10, 11]
  | 3 => some [3, 9, 10, 11, 12]
  | 4 => some [3, 4, 5, 9, 10, 11]
  | 5 => some [3, 4, 5, 6, 9, 10, 11]
  | 6 => some [3, 5, 6, 9, 10, 11, 42]
  | 7 => some [3, 5, 6, 9, 10, 11, 46, 47, 48]
  | 8 => some [3, 5, 6, 9, 10, 11, 46, 47, 48, 49]
  | 9 => some [3, 5, 6, 8, 9, 10, 11, 46, 47, 48]
  | 10 => some [3, 5, 6, 9, 10, 11, 46, 47, 48, 53]
  | 11 => some [3, 5, 6, 9, 10, 11, 46, 47, 48]
  | 12 => some [3, 9, 10, 11]
  | 13 => some [3, 9, 10, 11]
  | 14 => some [2]
  | _ => none
theorem f_log_found.does {W : World} {H : HProp} {R : Ending → HProp → Prop} (a0 : Value) (h : exec prog W tab 64 f_log_found.live (codeOf Go.Proofs.Tryz.f162) (bodyQ prog W tab [.tmp 2] R) (argFr 0 [a0]) [] H) : Does prog W f_log_found ⟨[a0]⟩ H R :=
  Does.of_exec tab_ok f_log_found.live Go.Proofs.Tryz.func162 rfl rfl rfl (by simp) h
noncomputable abbrev f_log_Log_wipe.def : Func := Go.Proofs.Tryz.f163
theorem f_log_Log_wipe.fn : prog.funcs[f_log_Log_wipe]? = some f_log_Log_wipe.def := Go.Proofs.Tryz.func163
theorem f_log_Log_wipe.ok : Callable prog f_log_Log_wipe := callable_of Go.Proofs.Tryz.func163 (by kernel_rfl) rfl
def f_log_Log_wipe.live : Nat → Option (List Nat) := fun i => match i with
  | 0 => some [0, 1, 4]
  | 1 => some [0, 1, 4, 5]
  | 2 => some [0, 1, 4, 5, 16]
  | 3 => some [0, 1, 4, 5]
  | 4 => some [0, 1, 4, 5, 24]
  | 5 => some [0, 1, 5]
  | 6 => some [0, 1, 4, 5]
  | 7 => some [0, 38]
  | 8 => some []
  | _ => none
theorem f_log_Log_wipe.does {W : World} {H : HProp} {R : Ending → HProp → Prop} (a0 a1 : Value) (h : exec prog W tab 45 f_log_Log_wipe.live (codeOf Go.Proofs.Tryz.f163) (bodyQ prog W tab [] R) (argFr 0 [a0, a1]) [] H) : Does prog W f_log_Log_wipe ⟨[a0, a1]⟩ H R :=
  Does.of_exec tab_ok f_log_Log_wipe.live Go.Proofs.Tryz.func163 rfl rfl rfl (by simp) h
def f_log_Log_wipe.plan5 : List Nat := [0, 1, 2, 3, 4, 5, 6, 7, 8, 9, 10, 11, 12]
def f_log_Log_wipe.last5 : List Nat := [11, 12]
noncomputable abbrev f_record_Check.def : Func := Go.Proofs.Tryz.f164
theorem f_record_Check.fn : prog.funcs[f_record_Check]? = some f_record_Check.def := Go.Proofs.Tryz.func164
theorem f_record_Check.ok : Callable prog f_record_Check := callable_of Go.Proofs.Tryz.func164 (by kernel_rfl) rfl
def f_record_Check.live : Nat → Option (List Nat) := fun i => match i with
  | 0 => some [1]
  | 1 => some [1, 13]
  | 2 => some [2]
  | 3 => some [1, 3]
  | 4 => some [1, 3, 4]
  | 5 => some [1, 3, 4, 19]
  | 6 => some [1, 3, 4, 19, 20]
  | 7 => some [1, 3, 4, 19, 22]
  | 8 => some [1, 3, 4, 19, 24]
  | 9 => some [1, 3, 4, 19, 24]
  | 10 => some [1, 3, 4, 19, 27]
  | 11 => some [1, 3, 4, 19, 27]
  | 12 => some [1, 3, 4, 19, 27]
  | 13 => some [1, 3, 4, 31]
  | 14 => some [1, 3, 4, 5]
  | 15 => some [3, 4]
  | 16 => some [3, 4]
  | 17 => some [3, 4]
  | 18 => some [3, 4]
  | 19 => some [1, 3, 4]
  | 20 => some [1, 3, 4]
  | 21 => some [1, 3, 4]
  | 22 => some [1, 3, 4]
  | 23 => some [3, 4]
  | 24 => some [3, 4]
  | 25 => some [133]
  | 26 => some [2]
  | 27 => some [2]
  | _ => none
theorem f_record_Check.does {W : World} {H : HProp} {R : Ending → HProp → Prop} (a0 : Value) (h : exec prog W tab 134 f_record_Check.live (codeOf Go.Proofs.Tryz.f164) (bodyQ prog W tab [.tmp 2] R) (argFr 0 [a0]) [] H) : Does prog W f_record_Check ⟨[a0]⟩ H R :=
  Does.of_exec tab_ok f_record_Check.live Go.Proofs.Tryz.func164 rfl rfl rfl (by simp) h
noncomputable abbrev f_log_Log_Free.def : Func := Go.Proofs.Tryz.f165
theorem f_log_Log_Free.fn : prog.funcs[f_log_Log_Free]? = some f_log_Log_Free.def := Go.Proofs.Tryz.func165
theorem f_log_Log_Free.ok : Callable prog f_log_Log_Free := callable_of Go.Proofs.Tryz.func165 (by kernel_rfl) rfl
def f_log_Log_Free.live : Nat → Option (List Nat) := fun i => match i with
  | 0 => some [0]
  | 1 => some [2]
  | _ => none
theorem f_log_Log_Free.does {W : World} {H : HProp} {R : Ending → HProp → Prop} (a0 : Value) (h : exec prog W tab 13 f_log_Log_Free.live (codeOf Go.Proofs.Tryz.f165) (bodyQ prog W tab [.tmp 2] R) (argFr 0 [a0]) [] H) : Does prog W f_log_Log_Free ⟨[a0]⟩ H R :=
  Does.of_exec tab_ok f_log_Log_Free.live Go.Proofs.Tryz.func165 rfl rfl rfl (by simp) h
def f_log_Log_Free.plan1 : List Nat := [0, 1, 2, 3, 4, 5, 6, 7, 8, 9, 10]
def f_log_Log_Free.last1 : List Nat := [9, 10]
noncomputable abbrev f_record_Encode.def : Func := Go.Proofs.Tryz.f166
theorem f_record_Encode.fn : prog.funcs[f_record_Encode]? = some f_record_Encode.def := Go.Proofs.Tryz.func166
theorem f_record_Encode.ok : Callable prog f_record_Encode := callable_of Go.Proofs.Tryz.func166 (by kernel_rfl) rfl
def f_record_Encode.live : Nat → Option (List Nat) := fun i => match i with
  | 0 => some [1]
  | 1 => some [1, 4]
  | 2 => some [1, 4, 19]
  | 3 => some [2, 3]
  | 4 => some [1, 5]
  | 5 => some [1, 5]
  | 6 => some [1, 5, 6, 7]
  | 7 => some [1, 5, 7, 31, 32, 33]
  | 8 => some [1, 5, 7, 31, 32, 33, 34]
  | 9 => some [1, 5, 7, 9, 31, 32, 33]
  | 10 => some [1, 5, 7, 31, 32, 33]
  | 11 => some [1, 5, 7, 31, 32, 33]
  | 12 => some [1, 5, 44, 45, 46]
  | 13 => some [1, 5, 44, 45, 46, 47]
  | 14 => some [1, 5, 11, 44, 45, 46]
  | 15 => some [1, 5, 44, 45, 46]
  | 16 => some [1, 5, 44, 45, 46]
  | 17 => some [1, 5, 58]
  | 18 => some [1, 5]
  | 19 => some [1, 5, 68, 69, 70]
  | 20 => some [1, 5, 68, 69, 70, 71]
  | 21 => some [1, 5, 13, 68, 69, 70]
  | 22 => some [1, 5, 13, 68, 69, 70]
  | 23 => some [1, 5, 13, 68, 69, 70]
  | 24 => some [1, 5, 68, 69, 70]
  | 25 => some [1, 5, 68, 69, 70]
  | 26 => some [1, 5]
  | 27 => some [5, 98, 99, 100]
  | 28 => some [5, 98, 99, 100, 101]
  | 29 => some [5, 15, 98, 99, 100]
  | 30 => some [5, 15, 98, 99, 100]
  | 31 => some [5, 98, 99, 100]
  | 32 => some [5, 98, 99, 100]
  | 33 => some [2, 3]
  | _ => none
theorem f_record_Encode.does {W : World} {H : HProp} {R : Ending → HProp → Prop} (a0 : Value) (h : exec prog W tab 117 f_record_Encode.live (codeOf Go.Proofs.Tryz.f166) (bodyQ prog W tab [.tmp 2, .tmp 3] R) (argFr 0 [a0]) [] H) : Does prog W f_record_Encode ⟨[a0]⟩ H R :=
  Does.of_exec tab_ok f_record_Encode.live Go.Proofs.Tryz.func166 rfl rfl rfl (by simp) h
noncomputable abbrev f_log_own.def : Func := Go.Proofs.Tryz.f167
theorem f_log_own.fn : prog.funcs[f_log_own]? = some f_log_own.def := Go.Proofs.Tryz.func167
theorem f_log_own.ok : Callable prog f_log_own := callable_of Go.Proofs.Tryz.func167 (by kernel_rfl) rfl
def f_log_own.live : Nat → Option (List Nat) := fun i => match i with
  | 0 => some [1, 2]
  | 1 => some [1, 2]
  | 2 => some [1, 2]
  | 3 => some [2]
  | _ => none
theorem f_log_own.does {W : World} {H : HProp} {R : Ending → HProp → Prop} (a0 : Value) (h : exec prog W tab 16 f_log_own.live (codeOf Go.Proofs.Tryz.f167) (bodyQ prog W tab [.cell 2 126] R) (argFr 0 [a0]) [] H) : Does prog W f_log_own ⟨[a0]⟩ H R :=
  Does.of_exec tab_ok f_log_own.live Go.Proofs.Tryz.func167 rfl rfl rfl (by simp) h
noncomputable abbrev f_pool_Pool_put.def : Func := Go.Proofs.Tryz.f168
theorem f_pool_Pool_put.fn : prog.funcs[f_pool_Pool_put]? = some f_pool_Pool_put.def := Go.Proofs.Tryz.func168
theorem f_pool_Pool_put.ok : Callable prog f_pool_Pool_put := callable_of Go.Proofs.Tryz.func168 (by kernel_rfl) rfl
def f_pool_Pool_put.live : Nat → Option (List Nat) := fun i => match i with
  | 0 => some [0, 3]
  | 1 => some [0, 3, 5]
  | 2 => some [0, 3, 5, 14]
  | 3 => some [4]
  | 4 => some [0, 3, 7]
  | 5 => some [0, 3, 7, 22]
  | 6 => some [4]
  | 7 => some [0, 3, 8]
  | 8 => some [0, 3, 8, 32]
  | 9 => some [4]
  | 10 => some [0, 3, 8, 50]
  | 11 => some [4]
  | 12 => some [0, 3, 8]
  | 13 => some [0, 3, 8, 60]
  | 14 => some [0, 8]
  | 15 => some []
  | 16 => some [4]
  | _ => none
theorem f_pool_Pool_put.does {W : World} {H : HProp} {R : Ending → HProp → Prop} (a0 a1 : Value) (h : exec prog W tab 72 f_pool_Pool_put.live (codeOf Go.Proofs.Tryz.f168) (bodyQ prog W tab [.tmp 4] R) (argFr 0 [a0, a1]) [] H) : Does prog W f_pool_Pool_put ⟨[a0, a1]⟩ H R :=
  Does.of_exec tab_ok f_pool_Pool_put.live Go.Proofs.Tryz.func168 rfl rfl rfl (by simp) h
def f_pool_Pool_put.plan7 : List Nat := [0, 1, 2, 3, 4, 5, 6, 7]
def f_pool_Pool_put.last7 : List Nat := [6, 7]
def f_pool_Pool_put.plan10 : List Nat := [0, 1, 2, 3, 4, 5, 6, 7, 8, 9, 10, 11, 12, 13, 14, 15, 16, 17]
def f_pool_Pool_put.last10 : List Nat := [16, 17]
def f_pool_Pool_put.plan14 : List Nat := [0, 1, 2, 3, 4, 5, 6, 7, 8, 9]
def f_pool_Pool_put.last14 : List Nat := [7, 8, 9]
noncomputable abbrev f_pool_Pool_write.def : Func := Go.Proofs.Tryz.f170
theorem f_pool_Pool_write.fn : prog.funcs[f_pool_Pool_write]? = some f_pool_Pool_write.def := Go.Proofs.Tryz.func170
theorem f_pool_Pool_write.ok : Callable prog f_pool_Pool_write := callable_of Go.Proofs.Tryz.func170 (by kernel_rfl) rfl
def f_pool_Pool_write.live : Nat → Option (List Nat) := fun i => match i with
  | 0 => some [0, 1]
  | 1 => some [0, 1, 5]
  | 2 => some [0, 1, 5, 21]
  | 3 => some [4]
  | 4 => some [0, 1, 5, 6]
  | 5 => some [0, 1, 5, 6, 35]
  | 6 => some [4]
  | 7 => some [0, 1, 5, 7, 8]
  | 8 => some [0, 1, 5, 7, 8, 46]
  | 9 => some [4]
  | 10 => some [0, 5, 7, 8, 9]
  | 11 => some [0, 5, 7, 8, 9, 58]
  | 12 => some [4]
  | 13 => some [5, 10]
  | 14 => some [5, 10, 70]
  | 15 => some [4]
  | 16 => some []
  | 17 => some [4]
  | _ => none
theorem f_pool_Pool_write.does {W : World} {H : HProp} {R : Ending → HProp → Prop} (a0 a1 : Value) (h : exec prog W tab 78 f_pool_Pool_write.live (codeOf Go.Proofs.Tryz.f170) (bodyQ prog W tab [.tmp 4] R) (argFr 0 [a0, a1]) [] H) : Does prog W f_pool_Pool_write ⟨[a0, a1]⟩ H R :=
  Does.of_exec tab_ok f_pool_Pool_write.live Go.Proofs.Tryz.func170 rfl rfl rfl (by simp) h
def f_pool_Pool_write.plan4 : List Nat := [0, 1, 2, 3, 4, 5, 6, 7, 8, 9, 10, 11, 12]
def f_pool_Pool_write.last4 : List Nat := [11, 12]
noncomputable abbrev f_log_Log_Force_1.def : Func := Go.Proofs.Tryz.f171
theorem f_log_Log_Force_1.fn : prog.funcs[f_log_Log_Force_1]? = some f_log_Log_Force_1.def := Go.Proofs.Tryz.func171
theorem f_log_Log_Force_1.ok : Callable prog f_log_Log_Force_1 := callable_of Go.Proofs.Tryz.func171 (by kernel_rfl) rfl
def f_log_Log_Force_1.live : Nat → Option (List Nat) := fun i => match i with
  | 0 => some [0, 1, 2]
  | 1 => some [0, 1, 2, 10]
  | 2 => some [0, 1, 2]
  | 3 => some [0, 1, 2]
  | 4 => some []
  | _ => none
theorem f_log_Log_Force_1.does {W : World} {H : HProp} {R : Ending → HProp → Prop} (a0 a1 : Value) (h : exec prog W tab 47 f_log_Log_Force_1.live (codeOf Go.Proofs.Tryz.f171) (bodyQ prog W tab [] R) (argFr 0 [a0, a1]) [] H) : Does prog W f_log_Log_Force_1 ⟨[a0, a1]⟩ H R :=
  Does.of_exec tab_ok f_log_Log_Force_1.live Go.Proofs.Tryz.func171 rfl rfl rfl (by simp) h
def f_log_Log_Force_1.plan3 : List Nat := [0, 1, 2, 3, 4, 5, 6, 7, 8, 9, 10, 11, 12, 13, 14, 15, 16, 17, 18, 19, 20, 21, 22, 23, 24, 25, 26, 27]
def f_log_Log_Force_1.last3 : List Nat := [26, 27]
noncomputable abbrev f_sectors_Device_Write.def : Func := Go.Proofs.Tryz.f172
theorem f_sectors_Device_Write.fn : prog.funcs[f_sectors_Device_Write]? = some f_sectors_Device_Write.def := Go.Proofs.Tryz.func172
theorem f_sectors_Device_Write.ok : Callable prog f_sectors_Device_Write := callable_of Go.Proofs.Tryz.func172 (by kernel_rfl) rfl
def f_sectors_Device_Write.live : Nat → Option (List Nat) := fun i => match i with
  | 0 => some [0, 1, 2]
  | 1 => some [0, 1, 2, 8]
  | 2 => some [6]
  | 3 => some [0, 1, 2, 13]
  | 4 => some [6]
  | 5 => some [0, 1, 2, 22]
  | 6 => some [6]
  | 7 => some [0, 1, 2, 7]
  | 8 => some [0, 7]
  | 9 => some [0, 41]
  | 10 => some [6]
  | 11 => some [6]
  | _ => none
theorem f_sectors_Device_Write.does {W : World} {H : HProp} {R : Ending → HProp → Prop} (a0 a1 a2 : Value) (h : exec prog W tab 48 f_sectors_Device_Write.live (codeOf Go.Proofs.Tryz.f172) (bodyQ prog W tab [.tmp 6] R) (argFr 0 [a0, a1, a2]) [] H) : Does prog W f_sectors_Device_Write ⟨[a0, a1, a2]⟩ H R :=
  Does.of_exec tab_ok f_sectors_Device_Write.live Go.Proofs.Tryz.func172 rfl rfl rfl (by simp) h
def f_sectors_Device_Write.plan8 : List Nat := [0, 1, 2, 3, 4, 5, 6, 7, 8, 9, 10, 11, 12, 13]
def f_sectors_Device_Write.last8 : List Nat := [11, 12, 13]
noncomputable abbrev f_log_laid.def : Func := Go.Proofs.Tryz.f173
theorem f_log_laid.fn : prog.funcs[f_log_laid]? = some f_log_laid.def := Go.Proofs.Tryz.func173
theorem f_log_laid.ok : Callable prog f_log_laid := callable_of Go.Proofs.Tryz.func173 (by kernel_rfl) rfl
def f_log_laid.live : Nat → Option (List Nat) := fun i => match i with
  | 0 => some [0, 1]
  | 1 => some [0, 1, 5]
  | 2 => some [0, 1, 5]
  | 3 => some [1, 5]
  | 4 => some [1, 5]
  | 5 => some [5]
  | 6 => some [5]
  | 7 => some [4]
  | _ => none
theorem f_log_laid.does {W : World} {H : HProp} {R : Ending → HProp → Prop} (a0 a1 : Value) (h : exec prog W tab 25 f_log_laid.live (codeOf Go.Proofs.Tryz.f173) (bodyQ prog W tab [.tmp 4] R) (argFr 0 [a0, a1]) [] H) : Does prog W f_log_laid ⟨[a0, a1]⟩ H R :=
  Does.of_exec tab_ok f_log_laid.live Go.Proofs.Tryz.func173 rfl rfl rfl (by simp) h
noncomputable abbrev f_errors_as.def : Func := Go.Proofs.Tryz.f177
theorem f_errors_as.fn : prog.funcs[f_errors_as]? = some f_errors_as.def := Go.Proofs.Tryz.func177
theorem f_errors_as.ok : Callable prog f_errors_as := callable_of Go.Proofs.Tryz.func177 (by kernel_rfl) rfl
def f_errors_as.live : Nat → Option (List Nat) := fun i => match i with
  | 0 => some [0, 1, 3, 6]
  | 1 => some [0, 1, 3, 6, 19]
  | 2 => some []
  | 3 => some [8]
  | 4 => some [0, 1, 3, 6, 9, 10]
  | 5 => some [0, 1, 3, 6, 35]
  | 6 => some [8]
  | 7 => some [1, 3, 6, 36]
  | 8 => some []
  | 9 => some [8]
  | 10 => some [1, 3, 6, 36, 38, 39]
  | 11 => some [1, 3, 6, 11]
  | 12 => some [0, 1, 3, 6]
  | 13 => some [0, 1, 3, 6, 43]
  | 14 => some [8]
  | 15 => some [1, 3, 6, 36, 45, 46]
  | 16 => some [1, 3, 6, 12]
  | 17 => some [1, 3, 6, 48, 49, 50]
  | 18 => some [1, 3, 6, 48, 49, 50, 51]
  | 19 => some [1, 3, 6, 14, 48, 49, 50]
  | 20 => some [1, 3, 6, 14, 48, 49, 50, 55]
  | 21 => some [1, 3, 6, 48, 49, 50, 60]
  | 22 => some [8]
  | 23 => some [1, 3, 6, 48, 49, 50]
  | 24 => some [8]
  | _ => none
theorem f_errors_as.does {W : World} {H : HProp} {R : Ending → HProp → Prop} (a0 a1 a2 a3 : Value) (h : exec prog W tab 62 f_errors_as.live (codeOf Go.Proofs.Tryz.f177) (bodyQ prog W tab [.tmp 8] R) (argFr 0 [a0, a1, a2, a3]) [] H) : Does prog W f_errors_as ⟨[a0, a1, a2, a3]⟩ H R :=
  Does.of_exec tab_ok f_errors_as.live Go.Proofs.Tryz.func177 rfl rfl rfl (by simp) h
noncomputable abbrev f_twin_must.def : Func := Go.Proofs.Tryz.f178
theorem f_twin_must.fn : prog.funcs[f_twin_must]? = some f_twin_must.def := Go.Proofs.Tryz.func178
theorem f_twin_must.ok : Callable prog f_twin_must := callable_of Go.Proofs.Tryz.func178 (by kernel_rfl) rfl
def f_twin_must.live : Nat → Option (List Nat) := fun i => match i with
  | 0 => some []
  | _ => none
theorem f_twin_must.does {W : World} {H : HProp} {R : Ending → HProp → Prop} (a0 : Value) (h : exec prog W tab 6 f_twin_must.live (codeOf Go.Proofs.Tryz.f178) (bodyQ prog W tab [] R) (argFr 0 [a0]) [] H) : Does prog W f_twin_must ⟨[a0]⟩ H R :=
  Does.of_exec tab_ok f_twin_must.live Go.Proofs.Tryz.func178 rfl rfl rfl (by simp) h
noncomputable abbrev f_page_zeros_1.def : Func := Go.Proofs.Tryz.f179
theorem f_page_zeros_1.fn : prog.funcs[f_page_zeros_1]? = some f_page_zeros_1.def := Go.Proofs.Tryz.func179
theorem f_page_zeros_1.ok : Callable prog f_page_zeros_1 := callable_of Go.Proofs.Tryz.func179 (by kernel_rfl) rfl
def f_page_zeros_1.live : Nat → Option (List Nat) := fun i => match i with
  | 0 => some [0]
  | 1 => some [2]
  | _ => none
theorem f_page_zeros_1.does {W : World} {H : HProp} {R : Ending → HProp → Prop} (a0 : Value) (h : exec prog W tab 5 f_page_zeros_1.live (codeOf Go.Proofs.Tryz.f179) (bodyQ prog W tab [.tmp 2] R) (argFr 0 [a0]) [] H) : Does prog W f_page_zeros_1 ⟨[a0]⟩ H R :=
  Does.of_exec tab_ok f_page_zeros_1.live Go.Proofs.Tryz.func179 rfl rfl rfl (by simp) h
noncomputable abbrev f_field_place.def : Func := Go.Proofs.Tryz.f180
theorem f_field_place.fn : prog.funcs[f_field_place]? = some f_field_place.def := Go.Proofs.Tryz.func180
theorem f_field_place.ok : Callable prog f_field_place := callable_of Go.Proofs.Tryz.func180 (by kernel_rfl) rfl
def f_field_place.live : Nat → Option (List Nat) := fun i => match i with
  | 0 => some [0, 1, 2]
  | 1 => some [6]
  | _ => none
theorem f_field_place.does {W : World} {H : HProp} {R : Ending → HProp → Prop} (a0 a1 a2 : Value) (h : exec prog W tab 29 f_field_place.live (codeOf Go.Proofs.Tryz.f180) (bodyQ prog W tab [.tmp 6] R) (argFr 0 [a0, a1, a2]) [] H) : Does prog W f_field_place ⟨[a0, a1, a2]⟩ H R :=
  Does.of_exec tab_ok f_field_place.live Go.Proofs.Tryz.func180 rfl rfl rfl (by simp) h
noncomputable abbrev f_field_Sum.def : Func := Go.Proofs.Tryz.f181
theorem f_field_Sum.fn : prog.funcs[f_field_Sum]? = some f_field_Sum.def := Go.Proofs.Tryz.func181
theorem f_field_Sum.ok : Callable prog f_field_Sum := callable_of Go.Proofs.Tryz.func181 (by kernel_rfl) rfl
def f_field_Sum.live : Nat → Option (List Nat) := fun i => match i with
  | 0 => some [0]
  | 1 => some [0, 3]
  | 2 => some [3, 8, 9, 10]
  | 3 => some [3, 8, 9, 10, 11]
  | 4 => some [3, 5, 8, 9, 10]
  | 5 => some [3, 8, 9, 10, 14, 15, 16]
  | 6 => some [3, 8, 9, 10, 14, 15, 16, 17]
  | 7 => some [3, 7, 8, 9, 10, 14, 15, 16]
  | 8 => some [3, 8, 9, 10, 14, 15, 16]
  | 9 => some [3, 8, 9, 10, 14, 15, 16]
  | 10 => some [3, 8, 9, 10, 14, 15, 16]
  | 11 => some [3, 8, 9, 10, 14, 15, 16]
  | 12 => some [3, 8, 9, 10]
  | 13 => some [2]
  | _ => none
theorem f_field_Sum.does {W : World} {H : HProp} {R : Ending → HProp → Prop} (a0 : Value) (h : exec prog W tab 42 f_field_Sum.live (codeOf Go.Proofs.Tryz.f181) (bodyQ prog W tab [.tmp 2] R) (argFr 0 [a0]) [] H) : Does prog W f_field_Sum ⟨[a0]⟩ H R :=
  Does.of_exec tab_ok f_field_Sum.live Go.Proofs.Tryz.func181 rfl rfl rfl (by simp) h
noncomputable abbrev f_maps_Keys_M_int_P_pool_frame_int_P_pool_frame_1.def : Func := Go.Proofs.Tryz.f184
theorem f_maps_Keys_M_int_P_pool_frame_int_P_pool_frame_1.fn : prog.funcs[f_maps_Keys_M_int_P_pool_frame_int_P_pool_frame_1]? = some f_maps_Keys_M_int_P_pool_frame_int_P_pool_frame_1.def := Go.Proofs.Tryz.func184
theorem f_maps_Keys_M_int_P_pool_frame_int_P_pool_frame_1.ok : Callable prog f_maps_Keys_M_int_P_pool_frame_int_P_pool_frame_1 := callable_of Go.Proofs.Tryz.func184 (by kernel_rfl) rfl
def f_maps_Keys_M_int_P_pool_frame_int_P_pool_frame_1.live : Nat → Option (List Nat) := fun i => match i with
  | 0 => some [0, 5]
  | 1 => some [0, 5, 7]
  | 2 => some [0, 3, 5]
  | 3 => some [0, 5, 13]
  | _ => none
theorem f_maps_Keys_M_int_P_pool_frame_int_P_pool_frame_1.does {W : World} {H : HProp} {R : Ending → HProp → Prop} (a0 a1 : Value) (h : exec prog W tab 14 f_maps_Keys_M_int_P_pool_frame_int_P_pool_frame_1.live (codeOf Go.Proofs.Tryz.f184) (bodyQ prog W tab [] R) (argFr 0 [a0, a1]) [] H) : Does prog W f_maps_Keys_M_int_P_pool_frame_int_P_pool_frame_1 ⟨[a0, a1]⟩ H R :=
  Does.of_exec tab_ok f_maps_Keys_M_int_P_pool_frame_int_P_pool_frame_1.live Go.Proofs.Tryz.func184 rfl rfl rfl (by simp) h
noncomputable abbrev f_pool_Pool_use.def : Func := Go.Proofs.Tryz.f185
theorem f_pool_Pool_use.fn : prog.funcs[f_pool_Pool_use]? = some f_pool_Pool_use.def := Go.Proofs.Tryz.func185
theorem f_pool_Pool_use.ok : Callable prog f_pool_Pool_use := callable_of Go.Proofs.Tryz.func185 (by kernel_rfl) rfl
def f_pool_Pool_use.live : Nat → Option (List Nat) := fun i => match i with
  | 0 => some [0, 1]
  | 1 => some []
  | _ => none
theorem f_pool_Pool_use.does {W : World} {H : HProp} {R : Ending → HProp → Prop} (a0 a1 : Value) (h : exec prog W tab 18 f_pool_Pool_use.live (codeOf Go.Proofs.Tryz.f185) (bodyQ prog W tab [] R) (argFr 0 [a0, a1]) [] H) : Does prog W f_pool_Pool_use ⟨[a0, a1]⟩ H R :=
  Does.of_exec tab_ok f_pool_Pool_use.live Go.Proofs.Tryz.func185 rfl rfl rfl (by simp) h
noncomputable abbrev f_pool_Pool_oldest.def : Func := Go.Proofs.Tryz.f186
theorem f_pool_Pool_oldest.fn : prog.funcs[f_pool_Pool_oldest]? = some f_pool_Pool_oldest.def := Go.Proofs.Tryz.func186
theorem f_pool_Pool_oldest.ok : Callable prog f_pool_Pool_oldest := callable_of Go.Proofs.Tryz.func186 (by kernel_rfl) rfl
def f_pool_Pool_oldest.live : Nat → Option (List Nat) := fun i => match i with
  | 0 => some [0]
  | 1 => some [0, 4, 5]
  | 2 => some [0, 4, 5, 12]
  | 3 => some [0, 4, 5, 12, 14]
  | 4 => some [0, 4, 5, 6, 7, 12]
  | 5 => some [0, 4, 5, 6, 12, 42]
  | 6 => some [0, 4, 5, 12]
  | 7 => some [2, 3]
  | _ => none
theorem f_pool_Pool_oldest.does {W : World} {H : HProp} {R : Ending → HProp → Prop} (a0 : Value) (h : exec prog W tab 46 f_pool_Pool_oldest.live (codeOf Go.Proofs.Tryz.f186) (bodyQ prog W tab [.tmp 2, .tmp 3] R) (argFr 0 [a0]) [] H) : Does prog W f_pool_Pool_oldest ⟨[a0]⟩ H R :=
  Does.of_exec tab_ok f_pool_Pool_oldest.live Go.Proofs.Tryz.func186 rfl rfl rfl (by simp) h
def f_pool_Pool_oldest.plan5 : List Nat := [0, 1, 2, 3, 4, 5, 6, 7, 8, 9, 10, 11, 12, 13, 14, 15, 16, 17, 18, 19, 20, 21, 22, 23, 24]
def f_pool_Pool_oldest.last5 : List Nat := [22, 23, 24]
noncomputable abbrev f_pool_Pool_seen.def : Func := Go.Proofs.Tryz.f187
theorem f_pool_Pool_seen.fn : prog.funcs[f_pool_Pool_seen]? = some f_pool_Pool_seen.def := Go.Proofs.Tryz.func187
theorem f_pool_Pool_seen.ok : Callable prog f_pool_Pool_seen := callable_of Go.Proofs.Tryz.func187 (by kernel_rfl) rfl
def f_pool_Pool_seen.live : Nat → Option (List Nat) := fun i => match i with
  | 0 => some [0, 1]
  | 1 => some [0, 5]
  | 2 => some [0, 5, 9]
  | 3 => some [0, 5]
  | 4 => some [5]
  | 5 => some [4]
  | _ => none
theorem f_pool_Pool_seen.does {W : World} {H : HProp} {R : Ending → HProp → Prop} (a0 a1 : Value) (h : exec prog W tab 18 f_pool_Pool_seen.live (codeOf Go.Proofs.Tryz.f187) (bodyQ prog W tab [.tmp 4] R) (argFr 0 [a0, a1]) [] H) : Does prog W f_pool_Pool_seen ⟨[a0, a1]⟩ H R :=
  Does.of_exec tab_ok f_pool_Pool_seen.live Go.Proofs.Tryz.func187 rfl rfl rfl (by simp) h
noncomputable abbrev f_slices_Clone_S_api_Counter_api_Counter.def : Func := Go.Proofs.Tryz.f188
theorem f_slices_Clone_S_api_Counter_api_Counter.fn : prog.funcs[f_slices_Clone_S_api_Counter_api_Counter]? = some f_slices_Clone_S_api_Counter_api_Counter.def := Go.Proofs.Tryz.func188
theorem f_slices_Clone_S_api_Counter_api_Counter.ok : Callable prog f_slices_Clone_S_api_Counter_api_Counter := callable_of Go.Proofs.Tryz.func188 (by kernel_rfl) rfl
def f_slices_Clone_S_api_Counter_api_Counter.live : Nat → Option (List Nat) := fun i => match i with
  | 0 => some [0]
  | 1 => some [0, 4]
  | 2 => some [2]
  | 3 => some [2]
  | _ => none
theorem f_slices_Clone_S_api_Counter_api_Counter.does {W : World} {H : HProp} {R : Ending → HProp → Prop} (a0 : Value) (h : exec prog W tab 8 f_slices_Clone_S_api_Counter_api_Counter.live (codeOf Go.Proofs.Tryz.f188) (bodyQ prog W tab [.tmp 2] R) (argFr 0 [a0]) [] H) : Does prog W f_slices_Clone_S_api_Counter_api_Counter ⟨[a0]⟩ H R :=
  Does.of_exec tab_ok f_slices_Clone_S_api_Counter_api_Counter.live Go.Proofs.Tryz.func188 rfl rfl rfl (by simp) h
noncomputable abbrev f_slices_Clone_S_api_Group_api_Group.def : Func := Go.Proofs.Tryz.f189
theorem f_slices_Clone_S_api_Group_api_Group.fn : prog.funcs[f_slices_Clone_S_api_Group_api_Group]? = some f_slices_Clone_S_api_Group_api_Group.def := Go.Proofs.Tryz.func189
theorem f_slices_Clone_S_api_Group_api_Group.ok : Callable prog f_slices_Clone_S_api_Group_api_Group := callable_of Go.Proofs.Tryz.func189 (by kernel_rfl) rfl
def f_slices_Clone_S_api_Group_api_Group.live : Nat → Option (List Nat) := fun i => match i with
  | 0 => some [0]
  | 1 => some [0, 4]
  | 2 => some [2]
  | 3 => some [2]
  | _ => none
theorem f_slices_Clone_S_api_Group_api_Group.does {W : World} {H : HProp} {R : Ending → HProp → Prop} (a0 : Value) (h : exec prog W tab 8 f_slices_Clone_S_api_Group_api_Group.live (codeOf Go.Proofs.Tryz.f189) (bodyQ prog W tab [.tmp 2] R) (argFr 0 [a0]) [] H) : Does prog W f_slices_Clone_S_api_Group_api_Group ⟨[a0]⟩ H R :=
  Does.of_exec tab_ok f_slices_Clone_S_api_Group_api_Group.live Go.Proofs.Tryz.func189 rfl rfl rfl (by simp) h
noncomputable abbrev f_sectors_kept.def : Func := Go.Proofs.Tryz.f210
theorem f_sectors_kept.fn : prog.funcs[f_sectors_kept]? = some f_sectors_kept.def := Go.Proofs.Tryz.func210
theorem f_sectors_kept.ok : Callable prog f_sectors_kept := callable_of Go.Proofs.Tryz.func210 (by kernel_rfl) rfl
def f_sectors_kept.live : Nat → Option (List Nat) := fun i => match i with
  | 0 => some [1, 2]
  | 1 => some [4]
  | _ => none
theorem f_sectors_kept.does {W : World} {H : HProp} {R : Ending → HProp → Prop} (a0 a1 : Value) (h : exec prog W tab 24 f_sectors_kept.live (codeOf Go.Proofs.Tryz.f210) (bodyQ prog W tab [.tmp 4] R) (argFr 0 [a0, a1]) [] H) : Does prog W f_sectors_kept ⟨[a0, a1]⟩ H R :=
  Does.of_exec tab_ok f_sectors_kept.live Go.Proofs.Tryz.func210 rfl rfl rfl (by simp) h
noncomputable abbrev f_sectors_Device_sector.def : Func := Go.Proofs.Tryz.f211
theorem f_sectors_Device_sector.fn : prog.funcs[f_sectors_Device_sector]? = some f_sectors_Device_sector.def := Go.Proofs.Tryz.func211
theorem f_sectors_Device_sector.ok : Callable prog f_sectors_Device_sector := callable_of Go.Proofs.Tryz.func211 (by kernel_rfl) rfl
def f_sectors_Device_sector.live : Nat → Option (List Nat) := fun i => match i with
  | 0 => some [0, 1]
  | 1 => some [4]
  | _ => none
theorem f_sectors_Device_sector.does {W : World} {H : HProp} {R : Ending → HProp → Prop} (a0 a1 : Value) (h : exec prog W tab 15 f_sectors_Device_sector.live (codeOf Go.Proofs.Tryz.f211) (bodyQ prog W tab [.tmp 4] R) (argFr 0 [a0, a1]) [] H) : Does prog W f_sectors_Device_sector ⟨[a0, a1]⟩ H R :=
  Does.of_exec tab_ok f_sectors_Device_sector.live Go.Proofs.Tryz.func211 rfl rfl rfl (by simp) h
noncomputable abbrev f_slices_IndexFunc_S_byte_byte.def : Func := Go.Proofs.Tryz.f212
theorem f_slices_IndexFunc_S_byte_byte.fn : prog.funcs[f_slices_IndexFunc_S_byte_byte]? = some f_slices_IndexFunc_S_byte_byte.def := Go.Proofs.Tryz.func212
theorem f_slices_IndexFunc_S_byte_byte.ok : Callable prog f_slices_IndexFunc_S_byte_byte := callable_of Go.Proofs.Tryz.func212 (by kernel_rfl) rfl
def f_slices_IndexFunc_S_byte_byte.live : Nat → Option (List Nat) := fun i => match i with
  | 0 => some [0, 1]
  | 1 => some [0, 1, 7, 8]
  | 2 => some [0, 1, 7, 8, 9]
  | 3 => some [0, 1, 5, 7, 8]
  | 4 => some [0, 1, 5, 7, 8, 16]
  | 5 => some [4]
  | 6 => some [0, 1, 7, 8]
  | 7 => some [4]
  | _ => none
theorem f_slices_IndexFunc_S_byte_byte.does {W : World} {H : HProp} {R : Ending → HProp → Prop} (a0 a1 : Value) (h : exec prog W tab 19 f_slices_IndexFunc_S_byte_byte.live (codeOf Go.Proofs.Tryz.f212) (bodyQ prog W tab [.tmp 4] R) (argFr 0 [a0, a1]) [] H) : Does prog W f_slices_IndexFunc_S_byte_byte ⟨[a0, a1]⟩ H R :=
  Does.of_exec tab_ok f_slices_IndexFunc_S_byte_byte.live Go.Proofs.Tryz.func212 rfl rfl rfl (by simp) h
noncomputable abbrev f_log_Log_Get.def : Func := Go.Proofs.Tryz.f217
theorem f_log_Log_Get.fn : prog.funcs[f_log_Log_Get]? = some f_log_Log_Get.def := Go.Proofs.Tryz.func217
theorem f_log_Log_Get.ok : Callable prog f_log_Log_Get := callable_of Go.Proofs.Tryz.func217 (by kernel_rfl) rfl
def f_log_Log_Get.live : Nat → Option (List Nat) := fun i => match i with
  | 0 => some [0, 1, 4]
  | 1 => some [0, 1, 4, 6]
  | 2 => some [4, 5]
  | 3 => some [0, 1, 4, 13]
  | 4 => some [4, 5]
  | 5 => some [4, 5]
  | _ => none
theorem f_log_Log_Get.does {W : World} {H : HProp} {R : Ending → HProp → Prop} (a0 a1 : Value) (h : exec prog W tab 35 f_log_Log_Get.live (codeOf Go.Proofs.Tryz.f217) (bodyQ prog W tab [.cell 4 126, .tmp 5] R) (argFr 0 [a0, a1]) [] H) : Does prog W f_log_Log_Get ⟨[a0, a1]⟩ H R :=
  Does.of_exec tab_ok f_log_Log_Get.live Go.Proofs.Tryz.func217 rfl rfl rfl (by simp) h
noncomputable abbrev f_log_caught_1.def : Func := Go.Proofs.Tryz.f227
theorem f_log_caught_1.fn : prog.funcs[f_log_caught_1]? = some f_log_caught_1.def := Go.Proofs.Tryz.func227
theorem f_log_caught_1.ok : Callable prog f_log_caught_1 := callable_of Go.Proofs.Tryz.func227 (by kernel_rfl) rfl
def f_log_caught_1.live : Nat → Option (List Nat) := fun i => match i with
  | 0 => some [0, 1, 2]
  | 1 => some [0, 1, 2, 7]
  | 2 => some [0, 1, 2, 3, 4]
  | 3 => some [0, 1, 2, 3, 14]
  | 4 => some [0, 1, 3]
  | 5 => some []
  | _ => none
theorem f_log_caught_1.does {W : World} {H : HProp} {R : Ending → HProp → Prop} (a0 a1 : Value) (h : exec prog W tab 25 f_log_caught_1.live (codeOf Go.Proofs.Tryz.f227) (bodyQ prog W tab [] R) (argFr 0 [a0, a1]) [] H) : Does prog W f_log_caught_1 ⟨[a0, a1]⟩ H R :=
  Does.of_exec tab_ok f_log_caught_1.live Go.Proofs.Tryz.func227 rfl rfl rfl (by simp) h
noncomputable abbrev f_sectors_Device_crashes.def : Func := Go.Proofs.Tryz.f228
theorem f_sectors_Device_crashes.fn : prog.funcs[f_sectors_Device_crashes]? = some f_sectors_Device_crashes.def := Go.Proofs.Tryz.func228
theorem f_sectors_Device_crashes.ok : Callable prog f_sectors_Device_crashes := callable_of Go.Proofs.Tryz.func228 (by kernel_rfl) rfl
def f_sectors_Device_crashes.live : Nat → Option (List Nat) := fun i => match i with
  | 0 => some [0]
  | 1 => some [0]
  | 2 => some [0, 14]
  | 3 => some [2]
  | 4 => some [0]
  | 5 => some [2]
  | _ => none
theorem f_sectors_Device_crashes.does {W : World} {H : HProp} {R : Ending → HProp → Prop} (a0 : Value) (h : exec prog W tab 27 f_sectors_Device_crashes.live (codeOf Go.Proofs.Tryz.f228) (bodyQ prog W tab [.tmp 2] R) (argFr 0 [a0]) [] H) : Does prog W f_sectors_Device_crashes ⟨[a0]⟩ H R :=
  Does.of_exec tab_ok f_sectors_Device_crashes.live Go.Proofs.Tryz.func228 rfl rfl rfl (by simp) h
noncomputable abbrev f_slices_Backward_S_api_Pending_api_Pending.def : Func := Go.Proofs.Tryz.f229
theorem f_slices_Backward_S_api_Pending_api_Pending.fn : prog.funcs[f_slices_Backward_S_api_Pending_api_Pending]? = some f_slices_Backward_S_api_Pending_api_Pending.def := Go.Proofs.Tryz.func229
theorem f_slices_Backward_S_api_Pending_api_Pending.ok : Callable prog f_slices_Backward_S_api_Pending_api_Pending := callable_of Go.Proofs.Tryz.func229 (by kernel_rfl) rfl
def f_slices_Backward_S_api_Pending_api_Pending.live : Nat → Option (List Nat) := fun i => match i with
  | 0 => some [1]
  | 1 => some [2]
  | _ => none
theorem f_slices_Backward_S_api_Pending_api_Pending.does {W : World} {H : HProp} {R : Ending → HProp → Prop} (a0 : Value) (h : exec prog W tab 4 f_slices_Backward_S_api_Pending_api_Pending.live (codeOf Go.Proofs.Tryz.f229) (bodyQ prog W tab [.tmp 2] R) (argFr 0 [a0]) [] H) : Does prog W f_slices_Backward_S_api_Pending_api_Pending ⟨[a0]⟩ H R :=
  Does.of_exec tab_ok f_slices_Backward_S_api_Pending_api_Pending.live Go.Proofs.Tryz.func229 rfl rfl rfl (by simp) h
noncomputable abbrev f_record_Decode.def : Func := Go.Proofs.Tryz.f230
theorem f_record_Decode.fn : prog.funcs[f_record_Decode]? = some f_record_Decode.def := Go.Proofs.Tryz.func230
theorem f_record_Decode.ok : Callable prog f_record_Decode := callable_of Go.Proofs.Tryz.func230 (by kernel_rfl) rfl
def f_record_Decode.live : Nat → Option (List Nat) := fun i => match i with
  | 0 => some [0, 2]
  | 1 => some [2, 4]
  | 2 => some [2, 4, 5]
  | 3 => some [2, 4, 5, 7]
  | 4 => some [2, 4, 5, 7, 31]
  | 5 => some [2, 3]
  | 6 => some [2, 4, 5, 39]
  | 7 => some [2, 3]
  | 8 => some [2, 4, 8]
  | 9 => some [2, 4, 8, 9]
  | 10 => some [2, 4, 8, 9, 46]
  | 11 => some [2, 4, 8, 9]
  | 12 => some [2, 4, 8, 9, 10, 11]
  | 13 => some [2, 4, 8, 9, 11, 53, 54, 55]
  | 14 => some [2, 4, 8, 9, 11, 53, 54, 55, 56]
  | 15 => some [2, 4, 8, 9, 11, 13, 53, 54, 55]
  | 16 => some [2, 4, 8, 9, 11, 53, 54, 55]
  | 17 => some [2, 4, 8, 9, 11, 53, 54, 55]
  | 18 => some [2, 4, 8, 66, 67, 68]
  | 19 => some [2, 4, 8, 66, 67, 68, 69]
  | 20 => some [2, 4, 8, 15, 66, 67, 68]
  | 21 => some [2, 4, 8, 66, 67, 68]
  | 22 => some [2, 4, 8, 66, 67, 68]
  | 23 => some [2, 4, 8, 79]
  | 24 => some [2, 4, 8, 81, 82]
  | 25 => some [2, 4, 8, 81, 82, 83]
  | 26 => some [2, 4, 8, 16, 81, 82]
  | 27 => some [2, 4, 8, 16, 17, 81, 82]
  | 28 => some [2, 4, 8, 16, 81, 82]
  | 29 => some [2, 4, 8, 81, 82]
  | 30 => some [2, 4, 8, 81, 82]
  | 31 => some [2, 4, 8, 109, 110]
  | 32 => some [2, 4, 8, 109, 110, 111]
  | 33 => some [2, 4, 8, 109, 110]
  | 34 => some [2, 4, 8, 109, 110]
  | 35 => some [2, 4, 8]
  | 36 => some [2, 8, 19]
  | 37 => some [2, 8, 19, 135]
  | 38 => some [2, 3]
  | 39 => some [2, 8, 20]
  | 40 => some [2, 8, 20, 141]
  | 41 => some [2, 3]
  | 42 => some [2, 3]
  | _ => none
theorem f_record_Decode.does {W : World} {H : HProp} {R : Ending → HProp → Prop} (a0 : Value) (h : exec prog W tab 145 f_record_Decode.live (codeOf Go.Proofs.Tryz.f230) (bodyQ prog W tab [.cell 2 126, .tmp 3] R) (argFr 0 [a0]) [] H) : Does prog W f_record_Decode ⟨[a0]⟩ H R :=
  Does.of_exec tab_ok f_record_Decode.live Go.Proofs.Tryz.func230 rfl rfl rfl (by simp) h
def f_record_Decode.plan33 : List Nat := [0, 1, 2, 3, 6, 4, 5, 7, 8, 9, 10, 11, 12, 13, 14]
def f_record_Decode.last33 : List Nat := [11, 12, 13, 14]
noncomputable abbrev f_log_number.def : Func := Go.Proofs.Tryz.f231
theorem f_log_number.fn : prog.funcs[f_log_number]? = some f_log_number.def := Go.Proofs.Tryz.func231
theorem f_log_number.ok : Callable prog f_log_number := callable_of Go.Proofs.Tryz.func231 (by kernel_rfl) rfl
def f_log_number.live : Nat → Option (List Nat) := fun i => match i with
  | 0 => some [0, 1, 2]
  | 1 => some [7]
  | 2 => some [6]
  | _ => none
theorem f_log_number.does {W : World} {H : HProp} {R : Ending → HProp → Prop} (a0 a1 a2 : Value) (h : exec prog W tab 18 f_log_number.live (codeOf Go.Proofs.Tryz.f231) (bodyQ prog W tab [.tmp 6] R) (argFr 0 [a0, a1, a2]) [] H) : Does prog W f_log_number ⟨[a0, a1, a2]⟩ H R :=
  Does.of_exec tab_ok f_log_number.live Go.Proofs.Tryz.func231 rfl rfl rfl (by simp) h
noncomputable abbrev f_log_blank.def : Func := Go.Proofs.Tryz.f232
theorem f_log_blank.fn : prog.funcs[f_log_blank]? = some f_log_blank.def := Go.Proofs.Tryz.func232
theorem f_log_blank.ok : Callable prog f_log_blank := callable_of Go.Proofs.Tryz.func232 (by kernel_rfl) rfl
def f_log_blank.live : Nat → Option (List Nat) := fun i => match i with
  | 0 => some [0]
  | 1 => some [2]
  | _ => none
theorem f_log_blank.does {W : World} {H : HProp} {R : Ending → HProp → Prop} (a0 : Value) (h : exec prog W tab 6 f_log_blank.live (codeOf Go.Proofs.Tryz.f232) (bodyQ prog W tab [.tmp 2] R) (argFr 0 [a0]) [] H) : Does prog W f_log_blank ⟨[a0]⟩ H R :=
  Does.of_exec tab_ok f_log_blank.live Go.Proofs.Tryz.func232 rfl rfl rfl (by simp) h
noncomputable abbrev f_record_in.def : Func := Go.Proofs.Tryz.f233
theorem f_record_in.fn : prog.funcs[f_record_in]? = some f_record_in.def := Go.Proofs.Tryz.func233
theorem f_record_in.ok : Callable prog f_record_in := callable_of Go.Proofs.Tryz.func233 (by kernel_rfl) rfl
def f_record_in.live : Nat → Option (List Nat) := fun i => match i with
  | 0 => some [0, 1, 2]
  | 1 => some [6]
  | _ => none
theorem f_record_in.does {W : World} {H : HProp} {R : Ending → HProp → Prop} (a0 a1 a2 : Value) (h : exec prog W tab 15 f_record_in.live (codeOf Go.Proofs.Tryz.f233) (bodyQ prog W tab [.tmp 6] R) (argFr 0 [a0, a1, a2]) [] H) : Does prog W f_record_in ⟨[a0, a1, a2]⟩ H R :=
  Does.of_exec tab_ok f_record_in.live Go.Proofs.Tryz.func233 rfl rfl rfl (by simp) h
noncomputable abbrev f_record_slots.def : Func := Go.Proofs.Tryz.f234
theorem f_record_slots.fn : prog.funcs[f_record_slots]? = some f_record_slots.def := Go.Proofs.Tryz.func234
theorem f_record_slots.ok : Callable prog f_record_slots := callable_of Go.Proofs.Tryz.func234 (by kernel_rfl) rfl
def f_record_slots.live : Nat → Option (List Nat) := fun i => match i with
  | 0 => some [2, 3]
  | 1 => some [4]
  | _ => none
theorem f_record_slots.does {W : World} {H : HProp} {R : Ending → HProp → Prop} (a0 a1 : Value) (h : exec prog W tab 30 f_record_slots.live (codeOf Go.Proofs.Tryz.f234) (bodyQ prog W tab [.tmp 4] R) (argFr 0 [a0, a1]) [] H) : Does prog W f_record_slots ⟨[a0, a1]⟩ H R :=
  Does.of_exec tab_ok f_record_slots.live Go.Proofs.Tryz.func234 rfl rfl rfl (by simp) h
noncomputable abbrev f_record_checkpoint.def : Func := Go.Proofs.Tryz.f235
theorem f_record_checkpoint.fn : prog.funcs[f_record_checkpoint]? = some f_record_checkpoint.def := Go.Proofs.Tryz.func235
theorem f_record_checkpoint.ok : Callable prog f_record_checkpoint := callable_of Go.Proofs.Tryz.func235 (by kernel_rfl) rfl
def f_record_checkpoint.live : Nat → Option (List Nat) := fun i => match i with
  | 0 => some [1, 2]
  | 1 => some [1, 2, 26]
  | 2 => some [4]
  | 3 => some [1, 2, 5]
  | 4 => some [1, 2, 5, 28, 29, 30]
  | 5 => some [1, 2, 5, 28, 29, 30, 31]
  | 6 => some [1, 2, 5, 7, 28, 29, 30]
  | 7 => some [1, 2, 7, 28, 29, 30, 65]
  | 8 => some [4]
  | 9 => some [1, 2, 5, 28, 29, 30]
  | 10 => some [1, 2, 5, 28, 29, 30]
  | 11 => some [1, 2, 8]
  | 12 => some [1, 8, 70, 71, 72]
  | 13 => some [1, 8, 70, 71, 72, 73]
  | 14 => some [1, 8, 10, 70, 71, 72]
  | 15 => some [1, 10, 70, 71, 72, 97]
  | 16 => some [4]
  | 17 => some [1, 8, 70, 71, 72]
  | 18 => some [1, 8, 70, 71, 72]
  | 19 => some [4]
  | _ => none
theorem f_record_checkpoint.does {W : World} {H : HProp} {R : Ending → HProp → Prop} (a0 a1 : Value) (h : exec prog W tab 101 f_record_checkpoint.live (codeOf Go.Proofs.Tryz.f235) (bodyQ prog W tab [.tmp 4] R) (argFr 0 [a0, a1]) [] H) : Does prog W f_record_checkpoint ⟨[a0, a1]⟩ H R :=
  Does.of_exec tab_ok f_record_checkpoint.live Go.Proofs.Tryz.func235 rfl rfl rfl (by simp) h
noncomputable abbrev f_record_below.def : Func := Go.Proofs.Tryz.f236
theorem f_record_below.fn : prog.funcs[f_record_below]? = some f_record_below.def := Go.Proofs.Tryz.func236
theorem f_record_below.ok : Callable prog f_record_below := callable_of Go.Proofs.Tryz.func236 (by kernel_rfl) rfl
def f_record_below.live : Nat → Option (List Nat) := fun i => match i with
  | 0 => some [0, 1]
  | 1 => some [4]
  | _ => none
theorem f_record_below.does {W : World} {H : HProp} {R : Ending → HProp → Prop} (a0 a1 : Value) (h : exec prog W tab 12 f_record_below.live (codeOf Go.Proofs.Tryz.f236) (bodyQ prog W tab [.tmp 4] R) (argFr 0 [a0, a1]) [] H) : Does prog W f_record_below ⟨[a0, a1]⟩ H R :=
  Does.of_exec tab_ok f_record_below.live Go.Proofs.Tryz.func236 rfl rfl rfl (by simp) h
noncomputable abbrev f_record_blank.def : Func := Go.Proofs.Tryz.f237
theorem f_record_blank.fn : prog.funcs[f_record_blank]? = some f_record_blank.def := Go.Proofs.Tryz.func237
theorem f_record_blank.ok : Callable prog f_record_blank := callable_of Go.Proofs.Tryz.func237 (by kernel_rfl) rfl
def f_record_blank.live : Nat → Option (List Nat) := fun i => match i with
  | 0 => some [1]
  | 1 => some [2]
  | _ => none
theorem f_record_blank.does {W : World} {H : HProp} {R : Ending → HProp → Prop} (a0 : Value) (h : exec prog W tab 54 f_record_blank.live (codeOf Go.Proofs.Tryz.f237) (bodyQ prog W tab [.tmp 2] R) (argFr 0 [a0]) [] H) : Does prog W f_record_blank ⟨[a0]⟩ H R :=
  Does.of_exec tab_ok f_record_blank.live Go.Proofs.Tryz.func237 rfl rfl rfl (by simp) h
noncomputable abbrev f_field_NewWriter.def : Func := Go.Proofs.Tryz.f238
theorem f_field_NewWriter.fn : prog.funcs[f_field_NewWriter]? = some f_field_NewWriter.def := Go.Proofs.Tryz.func238
theorem f_field_NewWriter.ok : Callable prog f_field_NewWriter := callable_of Go.Proofs.Tryz.func238 (by kernel_rfl) rfl
def f_field_NewWriter.live : Nat → Option (List Nat) := fun i => match i with
  | 0 => some []
  | 1 => some [0]
  | _ => none
theorem f_field_NewWriter.does {W : World} {H : HProp} {R : Ending → HProp → Prop} (h : exec prog W tab 3 f_field_NewWriter.live (codeOf Go.Proofs.Tryz.f238) (bodyQ prog W tab [.tmp 0] R) (argFr 0 []) [] H) : Does prog W f_field_NewWriter ⟨[]⟩ H R :=
  Does.of_exec tab_ok f_field_NewWriter.live Go.Proofs.Tryz.func238 rfl rfl rfl (by simp) h
noncomputable abbrev f_field_Writer_U.def : Func := Go.Proofs.Tryz.f239
theorem f_field_Writer_U.fn : prog.funcs[f_field_Writer_U]? = some f_field_Writer_U.def := Go.Proofs.Tryz.func239
theorem f_field_Writer_U.ok : Callable prog f_field_Writer_U := callable_of Go.Proofs.Tryz.func239 (by kernel_rfl) rfl
def f_field_Writer_U.live : Nat → Option (List Nat) := fun i => match i with
  | 0 => some [0, 1, 5]
  | 1 => some [0, 1]
  | 2 => some [0, 1]
  | 3 => some []
  | _ => none
theorem f_field_Writer_U.does {W : World} {H : HProp} {R : Ending → HProp → Prop} (a0 a1 : Value) (h : exec prog W tab 31 f_field_Writer_U.live (codeOf Go.Proofs.Tryz.f239) (bodyQ prog W tab [] R) (argFr 0 [a0, a1]) [] H) : Does prog W f_field_Writer_U ⟨[a0, a1]⟩ H R :=
  Does.of_exec tab_ok f_field_Writer_U.live Go.Proofs.Tryz.func239 rfl rfl rfl (by simp) h
noncomputable abbrev f_record_fields.def : Func := Go.Proofs.Tryz.f240
theorem f_record_fields.fn : prog.funcs[f_record_fields]? = some f_record_fields.def := Go.Proofs.Tryz.func240
theorem f_record_fields.ok : Callable prog f_record_fields := callable_of Go.Proofs.Tryz.func240 (by kernel_rfl) rfl
def f_record_fields.live : Nat → Option (List Nat) := fun i => match i with
  | 0 => some [0, 2, 3]
  | 1 => some [0, 2, 3, 8]
  | 2 => some [0, 2, 3, 8, 9]
  | 3 => some [0, 2, 3, 8, 11]
  | 4 => some [0, 2, 3, 8, 13]
  | 5 => some [0, 2, 3, 8, 13]
  | 6 => some [0, 2, 3, 8, 16]
  | 7 => some [0, 2, 3, 8, 16]
  | 8 => some [0, 2, 3, 16]
  | 9 => some [0, 4]
  | 10 => some [2, 3]
  | 11 => some [2, 3]
  | 12 => some [0, 2]
  | 13 => some [0, 2, 3]
  | 14 => some [0, 2, 3]
  | 15 => some [2, 3]
  | 16 => some [2, 3]
  | _ => none
theorem f_record_fields.does {W : World} {H : HProp} {R : Ending → HProp → Prop} (a0 : Value) (h : exec prog W tab 102 f_record_fields.live (codeOf Go.Proofs.Tryz.f240) (bodyQ prog W tab [.tmp 2, .tmp 3] R) (argFr 0 [a0]) [] H) : Does prog W f_record_fields ⟨[a0]⟩ H R :=
  Does.of_exec tab_ok f_record_fields.live Go.Proofs.Tryz.func240 rfl rfl rfl (by simp) h
def f_record_fields.tree10 : PT := (.op 0 (.op 1 (.op 2 (.op 3 (.op 4 (.op 5 (.op 6 (.op 7 (.op 8 (.op 9 (.op 10 (.op 11 (.op 12 (.op 13 (.op 14 (.op 15 (.op 16 (.op 17 (.op 18 (.op 19 (.op 20 (.op 21 (.op 23 (.op 24 (.op 25 (.op 26 (.op 27 (.op 28 (.op 29 (.op 30 (.op 31 (.op 32 (.op 33 (.two 22 (.op 35 (.op 34 (.op 36 .nil))) 34 (.op 22 (.op 35 (.op 36 .nil)))))))))))))))))))))))))))))))))))))
def f_record_fields.plan12 : List Nat := [0, 1, 2, 3, 4, 5, 6, 7, 8, 9, 10, 11, 12, 13, 14, 15, 16, 17, 18, 19, 20, 21]
def f_record_fields.last12 : List Nat := [20, 21]
noncomputable abbrev f_field_Writer_S.def : Func := Go.Proofs.Tryz.f241
theorem f_field_Writer_S.fn : prog.funcs[f_field_Writer_S]? = some f_field_Writer_S.def := Go.Proofs.Tryz.func241
theorem f_field_Writer_S.ok : Callable prog f_field_Writer_S := callable_of Go.Proofs.Tryz.func241 (by kernel_rfl) rfl
def f_field_Writer_S.live : Nat → Option (List Nat) := fun i => match i with
  | 0 => some []
  | _ => none
theorem f_field_Writer_S.does {W : World} {H : HProp} {R : Ending → HProp → Prop} (a0 a1 : Value) (h : exec prog W tab 13 f_field_Writer_S.live (codeOf Go.Proofs.Tryz.f241) (bodyQ prog W tab [] R) (argFr 0 [a0, a1]) [] H) : Does prog W f_field_Writer_S ⟨[a0, a1]⟩ H R :=
  Does.of_exec tab_ok f_field_Writer_S.live Go.Proofs.Tryz.func241 rfl rfl rfl (by simp) h
noncomputable abbrev f_record_state.def : Func := Go.Proofs.Tryz.f242
theorem f_record_state.fn : prog.funcs[f_record_state]? = some f_record_state.def := Go.Proofs.Tryz.func242
theorem f_record_state.ok : Callable prog f_record_state := callable_of Go.Proofs.Tryz.func242 (by kernel_rfl) rfl
def f_record_state.live : Nat → Option (List Nat) := fun i => match i with
  | 0 => some [1]
  | 1 => some [1, 3]
  | 2 => some [2]
  | 3 => some [6]
  | 4 => some [2]
  | 5 => some [2]
  | _ => none
theorem f_record_state.does {W : World} {H : HProp} {R : Ending → HProp → Prop} (a0 : Value) (h : exec prog W tab 9 f_record_state.live (codeOf Go.Proofs.Tryz.f242) (bodyQ prog W tab [.tmp 2] R) (argFr 0 [a0]) [] H) : Does prog W f_record_state ⟨[a0]⟩ H R :=
  Does.of_exec tab_ok f_record_state.live Go.Proofs.Tryz.func242 rfl rfl rfl (by simp) h
noncomputable abbrev f_field_Writer_Out.def : Func := Go.Proofs.Tryz.f243
theorem f_field_Writer_Out.fn : prog.funcs[f_field_Writer_Out]? = some f_field_Writer_Out.def := Go.Proofs.Tryz.func243
theorem f_field_Writer_Out.ok : Callable prog f_field_Writer_Out := callable_of Go.Proofs.Tryz.func243 (by kernel_rfl) rfl
def f_field_Writer_Out.live : Nat → Option (List Nat) := fun i => match i with
  | 0 => some [0]
  | 1 => some [2]
  | _ => none
theorem f_field_Writer_Out.does {W : World} {H : HProp} {R : Ending → HProp → Prop} (a0 : Value) (h : exec prog W tab 8 f_field_Writer_Out.live (codeOf Go.Proofs.Tryz.f243) (bodyQ prog W tab [.tmp 2] R) (argFr 0 [a0]) [] H) : Does prog W f_field_Writer_Out ⟨[a0]⟩ H R :=
  Does.of_exec tab_ok f_field_Writer_Out.live Go.Proofs.Tryz.func243 rfl rfl rfl (by simp) h
noncomputable abbrev f_slices_Clone_S_api_Live_api_Live.def : Func := Go.Proofs.Tryz.f244
theorem f_slices_Clone_S_api_Live_api_Live.fn : prog.funcs[f_slices_Clone_S_api_Live_api_Live]? = some f_slices_Clone_S_api_Live_api_Live.def := Go.Proofs.Tryz.func244
theorem f_slices_Clone_S_api_Live_api_Live.ok : Callable prog f_slices_Clone_S_api_Live_api_Live := callable_of Go.Proofs.Tryz.func244 (by kernel_rfl) rfl
def f_slices_Clone_S_api_Live_api_Live.live : Nat → Option (List Nat) := fun i => match i with
  | 0 => some [0]
  | 1 => some [0, 4]
  | 2 => some [2]
  | 3 => some [2]
  | _ => none
theorem f_slices_Clone_S_api_Live_api_Live.does {W : World} {H : HProp} {R : Ending → HProp → Prop} (a0 : Value) (h : exec prog W tab 8 f_slices_Clone_S_api_Live_api_Live.live (codeOf Go.Proofs.Tryz.f244) (bodyQ prog W tab [.tmp 2] R) (argFr 0 [a0]) [] H) : Does prog W f_slices_Clone_S_api_Live_api_Live ⟨[a0]⟩ H R :=
  Does.of_exec tab_ok f_slices_Clone_S_api_Live_api_Live.live Go.Proofs.Tryz.func244 rfl rfl rfl (by simp) h
noncomputable abbrev f_slices_Clone_S_api_Dirty_api_Dirty.def : Func := Go.Proofs.Tryz.f245
theorem f_slices_Clone_S_api_Dirty_api_Dirty.fn : prog.funcs[f_slices_Clone_S_api_Dirty_api_Dirty]? = some f_slices_Clone_S_api_Dirty_api_Dirty.def := Go.Proofs.Tryz.func245
theorem f_slices_Clone_S_api_Dirty_api_Dirty.ok : Callable prog f_slices_Clone_S_api_Dirty_api_Dirty := callable_of Go.Proofs.Tryz.func245 (by kernel_rfl) rfl
def f_slices_Clone_S_api_Dirty_api_Dirty.live : Nat → Option (List Nat) := fun i => match i with
  | 0 => some [0]
  | 1 => some [0, 4]
  | 2 => some [2]
  | 3 => some [2]
  | _ => none
theorem f_slices_Clone_S_api_Dirty_api_Dirty.does {W : World} {H : HProp} {R : Ending → HProp → Prop} (a0 : Value) (h : exec prog W tab 8 f_slices_Clone_S_api_Dirty_api_Dirty.live (codeOf Go.Proofs.Tryz.f245) (bodyQ prog W tab [.tmp 2] R) (argFr 0 [a0]) [] H) : Does prog W f_slices_Clone_S_api_Dirty_api_Dirty ⟨[a0]⟩ H R :=
  Does.of_exec tab_ok f_slices_Clone_S_api_Dirty_api_Dirty.live Go.Proofs.Tryz.func245 rfl rfl rfl (by simp) h
noncomputable abbrev f_page_Encode.def : Func := Go.Proofs.Tryz.f246
theorem f_page_Encode.fn : prog.funcs[f_page_Encode]? = some f_page_Encode.def := Go.Proofs.Tryz.func246
theorem f_page_Encode.ok : Callable prog f_page_Encode := callable_of Go.Proofs.Tryz.func246 (by kernel_rfl) rfl
def f_page_Encode.live : Nat → Option (List Nat) := fun i => match i with
  | 0 => some [1]
  | 1 => some [1, 4]
  | 2 => some [1, 4, 14]
  | 3 => some [2, 3]
  | 4 => some [1, 5]
  | 5 => some [1, 5, 19]
  | 6 => some [2, 3]
  | 7 => some [1, 5, 6]
  | 8 => some [1, 5, 6, 24]
  | 9 => some [1, 5, 6]
  | 10 => some [1, 5]
  | 11 => some [1, 5, 40, 41, 42]
  | 12 => some [1, 5, 40, 41, 42, 43]
  | 13 => some [1, 5, 7, 8, 40, 41, 42]
  | 14 => some [1, 5, 40, 41, 42]
  | 15 => some [1, 5, 40, 41, 42]
  | 16 => some [5, 73, 74, 75]
  | 17 => some [5, 73, 74, 75, 76]
  | 18 => some [5, 9, 10, 73, 74, 75]
  | 19 => some [5, 73, 74, 75]
  | 20 => some [5, 73, 74, 75]
  | 21 => some [5]
  | 22 => some [2, 3]
  | _ => none
theorem f_page_Encode.does {W : World} {H : HProp} {R : Ending → HProp → Prop} (a0 : Value) (h : exec prog W tab 102 f_page_Encode.live (codeOf Go.Proofs.Tryz.f246) (bodyQ prog W tab [.tmp 2, .tmp 3] R) (argFr 0 [a0]) [] H) : Does prog W f_page_Encode ⟨[a0]⟩ H R :=
  Does.of_exec tab_ok f_page_Encode.live Go.Proofs.Tryz.func246 rfl rfl rfl (by simp) h
def f_page_Encode.plan10 : List Nat := [0, 1, 2, 3, 4, 5, 6, 9, 10, 11, 7, 8, 12, 13]
def f_page_Encode.last10 : List Nat := [13]
noncomputable abbrev f_twin_Write.def : Func := Go.Proofs.Tryz.f248
theorem f_twin_Write.fn : prog.funcs[f_twin_Write]? = some f_twin_Write.def := Go.Proofs.Tryz.func248
theorem f_twin_Write.ok : Callable prog f_twin_Write := callable_of Go.Proofs.Tryz.func248 (by kernel_rfl) rfl
def f_twin_Write.live : Nat → Option (List Nat) := fun i => match i with
  | 0 => some [0, 1, 2, 3, 8]
  | 1 => some [0, 1, 2, 3, 8]
  | 2 => some [0, 1, 2, 3, 8]
  | 3 => some [0, 1, 2, 3, 8]
  | 4 => some [0, 1, 2, 3, 8]
  | 5 => some [0, 1, 2, 3, 8]
  | 6 => some [0, 1, 2, 3, 8, 9]
  | 7 => some [0, 1, 2, 3, 8, 9, 34]
  | 8 => some [0, 1, 2, 3, 8, 9, 34, 35]
  | 9 => some [0, 1, 2, 3, 8, 9, 10, 34]
  | 10 => some [0, 1, 2, 3, 8, 9, 34]
  | 11 => some [0, 1, 2, 3, 8, 9, 34]
  | 12 => some [0, 1, 2, 3, 8, 9]
  | 13 => some [0, 1, 2, 3, 8, 9]
  | 14 => some [0, 1, 8, 9]
  | 15 => some [0, 1, 8, 9]
  | 16 => some [8]
  | 17 => some [8]
  | _ => none
theorem f_twin_Write.does {W : World} {H : HProp} {R : Ending → HProp → Prop} (a0 a1 a2 a3 : Value) (h : exec prog W tab 62 f_twin_Write.live (codeOf Go.Proofs.Tryz.f248) (bodyQ prog W tab [.cell 8 49] R) (argFr 0 [a0, a1, a2, a3]) [] H) : Does prog W f_twin_Write ⟨[a0, a1, a2, a3]⟩ H R :=
  Does.of_exec tab_ok f_twin_Write.live Go.Proofs.Tryz.func248 rfl rfl rfl (by simp) h
noncomputable abbrev f_field_Put.def : Func := Go.Proofs.Tryz.f249
theorem f_field_Put.fn : prog.funcs[f_field_Put]? = some f_field_Put.def := Go.Proofs.Tryz.func249
theorem f_field_Put.ok : Callable prog f_field_Put := callable_of Go.Proofs.Tryz.func249 (by kernel_rfl) rfl
def f_field_Put.live : Nat → Option (List Nat) := fun i => match i with
  | 0 => some [0, 1, 2, 3]
  | 1 => some [0, 1, 2, 3, 15]
  | 2 => some [8]
  | 3 => some [0, 1, 2, 3, 24]
  | 4 => some [8]
  | 5 => some [0, 1, 3, 25, 26]
  | 6 => some [0, 1, 3, 25, 26, 27]
  | 7 => some [0, 1, 3, 9, 25, 26]
  | 8 => some [0, 1, 3, 25, 26]
  | 9 => some [0, 1, 3, 25, 26]
  | 10 => some [8]
  | _ => none
theorem f_field_Put.does {W : World} {H : HProp} {R : Ending → HProp → Prop} (a0 a1 a2 a3 : Value) (h : exec prog W tab 40 f_field_Put.live (codeOf Go.Proofs.Tryz.f249) (bodyQ prog W tab [.tmp 8] R) (argFr 0 [a0, a1, a2, a3]) [] H) : Does prog W f_field_Put ⟨[a0, a1, a2, a3]⟩ H R :=
  Does.of_exec tab_ok f_field_Put.live Go.Proofs.Tryz.func249 rfl rfl rfl (by simp) h
noncomputable abbrev f_slices_Backward_S_api_Pending_api_Pending_1.def : Func := Go.Proofs.Tryz.f286
theorem f_slices_Backward_S_api_Pending_api_Pending_1.fn : prog.funcs[f_slices_Backward_S_api_Pending_api_Pending_1]? = some f_slices_Backward_S_api_Pending_api_Pending_1.def := Go.Proofs.Tryz.func286
theorem f_slices_Backward_S_api_Pending_api_Pending_1.ok : Callable prog f_slices_Backward_S_api_Pending_api_Pending_1 := callable_of Go.Proofs.Tryz.func286 (by kernel_rfl) rfl
def f_slices_Backward_S_api_Pending_api_Pending_1.live : Nat → Option (List Nat) := fun i => match i with
  | 0 => some [0, 1, 3]
  | 1 => some [0, 1, 3, 8]
  | 2 => some [0, 1, 3]
  | 3 => some [0, 1, 3, 18]
  | _ => none
theorem f_slices_Backward_S_api_Pending_api_Pending_1.does {W : World} {H : HProp} {R : Ending → HProp → Prop} (a0 a1 : Value) (h : exec prog W tab 19 f_slices_Backward_S_api_Pending_api_Pending_1.live (codeOf Go.Proofs.Tryz.f286) (bodyQ prog W tab [] R) (argFr 0 [a0, a1]) [] H) : Does prog W f_slices_Backward_S_api_Pending_api_Pending_1 ⟨[a0, a1]⟩ H R :=
  Does.of_exec tab_ok f_slices_Backward_S_api_Pending_api_Pending_1.live Go.Proofs.Tryz.func286 rfl rfl rfl (by simp) h
noncomputable abbrev f_field_NewReader.def : Func := Go.Proofs.Tryz.f287
theorem f_field_NewReader.fn : prog.funcs[f_field_NewReader]? = some f_field_NewReader.def := Go.Proofs.Tryz.func287
theorem f_field_NewReader.ok : Callable prog f_field_NewReader := callable_of Go.Proofs.Tryz.func287 (by kernel_rfl) rfl
def f_field_NewReader.live : Nat → Option (List Nat) := fun i => match i with
  | 0 => some [0]
  | 1 => some [2]
  | _ => none
theorem f_field_NewReader.does {W : World} {H : HProp} {R : Ending → HProp → Prop} (a0 : Value) (h : exec prog W tab 7 f_field_NewReader.live (codeOf Go.Proofs.Tryz.f287) (bodyQ prog W tab [.tmp 2] R) (argFr 0 [a0]) [] H) : Does prog W f_field_NewReader ⟨[a0]⟩ H R :=
  Does.of_exec tab_ok f_field_NewReader.live Go.Proofs.Tryz.func287 rfl rfl rfl (by simp) h
noncomputable abbrev f_field_Reader_U.def : Func := Go.Proofs.Tryz.f288
theorem f_field_Reader_U.fn : prog.funcs[f_field_Reader_U]? = some f_field_Reader_U.def := Go.Proofs.Tryz.func288
theorem f_field_Reader_U.ok : Callable prog f_field_Reader_U := callable_of Go.Proofs.Tryz.func288 (by kernel_rfl) rfl
def f_field_Reader_U.live : Nat → Option (List Nat) := fun i => match i with
  | 0 => some [0, 1]
  | 1 => some [0, 1, 12]
  | 2 => some [4]
  | 3 => some [0, 1, 5, 6, 7]
  | 4 => some [0, 5, 6, 7, 25]
  | 5 => some [0, 5, 6, 7]
  | 6 => some [0, 5, 6, 7, 27]
  | 7 => some []
  | 8 => some [4]
  | 9 => some [5]
  | 10 => some [4]
  | _ => none
theorem f_field_Reader_U.does {W : World} {H : HProp} {R : Ending → HProp → Prop} (a0 a1 : Value) (h : exec prog W tab 41 f_field_Reader_U.live (codeOf Go.Proofs.Tryz.f288) (bodyQ prog W tab [.tmp 4] R) (argFr 0 [a0, a1]) [] H) : Does prog W f_field_Reader_U ⟨[a0, a1]⟩ H R :=
  Does.of_exec tab_ok f_field_Reader_U.live Go.Proofs.Tryz.func288 rfl rfl rfl (by simp) h
noncomputable abbrev f_field_Reader_Fault.def : Func := Go.Proofs.Tryz.f289
theorem f_field_Reader_Fault.fn : prog.funcs[f_field_Reader_Fault]? = some f_field_Reader_Fault.def := Go.Proofs.Tryz.func289
theorem f_field_Reader_Fault.ok : Callable prog f_field_Reader_Fault := callable_of Go.Proofs.Tryz.func289 (by kernel_rfl) rfl
def f_field_Reader_Fault.live : Nat → Option (List Nat) := fun i => match i with
  | 0 => some [0]
  | 1 => some [0, 8]
  | 2 => some [2, 3]
  | 3 => some [2, 3]
  | _ => none
theorem f_field_Reader_Fault.does {W : World} {H : HProp} {R : Ending → HProp → Prop} (a0 : Value) (h : exec prog W tab 17 f_field_Reader_Fault.live (codeOf Go.Proofs.Tryz.f289) (bodyQ prog W tab [.tmp 2, .tmp 3] R) (argFr 0 [a0]) [] H) : Does prog W f_field_Reader_Fault ⟨[a0]⟩ H R :=
  Does.of_exec tab_ok f_field_Reader_Fault.live Go.Proofs.Tryz.func289 rfl rfl rfl (by simp) h
def f_field_Reader_Fault.plan3 : List Nat := [0, 1, 2, 3, 4, 5, 6, 7, 8, 9]
def f_field_Reader_Fault.last3 : List Nat := [9]
noncomputable abbrev f_field_Reader_S.def : Func := Go.Proofs.Tryz.f290
theorem f_field_Reader_S.fn : prog.funcs[f_field_Reader_S]? = some f_field_Reader_S.def := Go.Proofs.Tryz.func290
theorem f_field_Reader_S.ok : Callable prog f_field_Reader_S := callable_of Go.Proofs.Tryz.func290 (by kernel_rfl) rfl
def f_field_Reader_S.live : Nat → Option (List Nat) := fun i => match i with
  | 0 => some [0]
  | 1 => some [3]
  | 2 => some [2]
  | _ => none
theorem f_field_Reader_S.does {W : World} {H : HProp} {R : Ending → HProp → Prop} (a0 : Value) (h : exec prog W tab 14 f_field_Reader_S.live (codeOf Go.Proofs.Tryz.f290) (bodyQ prog W tab [.tmp 2] R) (argFr 0 [a0]) [] H) : Does prog W f_field_Reader_S ⟨[a0]⟩ H R :=
  Does.of_exec tab_ok f_field_Reader_S.live Go.Proofs.Tryz.func290 rfl rfl rfl (by simp) h
noncomputable abbrev f_field_Reader_End.def : Func := Go.Proofs.Tryz.f291
theorem f_field_Reader_End.fn : prog.funcs[f_field_Reader_End]? = some f_field_Reader_End.def := Go.Proofs.Tryz.func291
theorem f_field_Reader_End.ok : Callable prog f_field_Reader_End := callable_of Go.Proofs.Tryz.func291 (by kernel_rfl) rfl
def f_field_Reader_End.live : Nat → Option (List Nat) := fun i => match i with
  | 0 => some [0, 18]
  | 1 => some []
  | _ => none
theorem f_field_Reader_End.does {W : World} {H : HProp} {R : Ending → HProp → Prop} (a0 : Value) (h : exec prog W tab 22 f_field_Reader_End.live (codeOf Go.Proofs.Tryz.f291) (bodyQ prog W tab [] R) (argFr 0 [a0]) [] H) : Does prog W f_field_Reader_End ⟨[a0]⟩ H R :=
  Does.of_exec tab_ok f_field_Reader_End.live Go.Proofs.Tryz.func291 rfl rfl rfl (by simp) h
def f_field_Reader_End.plan0 : List Nat := [0, 1, 2, 3, 4, 5, 6, 7, 8, 9, 10, 11, 12, 13, 14, 15, 16]
def f_field_Reader_End.last0 : List Nat := [15, 16]
noncomputable abbrev f_log_blank_1.def : Func := Go.Proofs.Tryz.f292
theorem f_log_blank_1.fn : prog.funcs[f_log_blank_1]? = some f_log_blank_1.def := Go.Proofs.Tryz.func292
theorem f_log_blank_1.ok : Callable prog f_log_blank_1 := callable_of Go.Proofs.Tryz.func292 (by kernel_rfl) rfl
def f_log_blank_1.live : Nat → Option (List Nat) := fun i => match i with
  | 0 => some [0]
  | 1 => some [2]
  | _ => none
theorem f_log_blank_1.does {W : World} {H : HProp} {R : Ending → HProp → Prop} (a0 : Value) (h : exec prog W tab 5 f_log_blank_1.live (codeOf Go.Proofs.Tryz.f292) (bodyQ prog W tab [.tmp 2] R) (argFr 0 [a0]) [] H) : Does prog W f_log_blank_1 ⟨[a0]⟩ H R :=
  Does.of_exec tab_ok f_log_blank_1.live Go.Proofs.Tryz.func292 rfl rfl rfl (by simp) h
noncomputable abbrev f_slices_Clone_S_byte_byte.def : Func := Go.Proofs.Tryz.f293
theorem f_slices_Clone_S_byte_byte.fn : prog.funcs[f_slices_Clone_S_byte_byte]? = some f_slices_Clone_S_byte_byte.def := Go.Proofs.Tryz.func293
theorem f_slices_Clone_S_byte_byte.ok : Callable prog f_slices_Clone_S_byte_byte := callable_of Go.Proofs.Tryz.func293 (by kernel_rfl) rfl
def f_slices_Clone_S_byte_byte.live : Nat → Option (List Nat) := fun i => match i with
  | 0 => some [0]
  | 1 => some [0, 4]
  | 2 => some [2]
  | 3 => some [2]
  | _ => none
theorem f_slices_Clone_S_byte_byte.does {W : World} {H : HProp} {R : Ending → HProp → Prop} (a0 : Value) (h : exec prog W tab 8 f_slices_Clone_S_byte_byte.live (codeOf Go.Proofs.Tryz.f293) (bodyQ prog W tab [.tmp 2] R) (argFr 0 [a0]) [] H) : Does prog W f_slices_Clone_S_byte_byte ⟨[a0]⟩ H R :=
  Does.of_exec tab_ok f_slices_Clone_S_byte_byte.live Go.Proofs.Tryz.func293 rfl rfl rfl (by simp) h
noncomputable abbrev f_page_Page_refused.def : Func := Go.Proofs.Tryz.f294
theorem f_page_Page_refused.fn : prog.funcs[f_page_Page_refused]? = some f_page_Page_refused.def := Go.Proofs.Tryz.func294
theorem f_page_Page_refused.ok : Callable prog f_page_Page_refused := callable_of Go.Proofs.Tryz.func294 (by kernel_rfl) rfl
def f_page_Page_refused.live : Nat → Option (List Nat) := fun i => match i with
  | 0 => some [1]
  | 1 => some [1, 3]
  | 2 => some [2]
  | 3 => some [1, 8]
  | 4 => some [2]
  | 5 => some [1, 19]
  | 6 => some [2]
  | 7 => some [1, 30]
  | 8 => some [2]
  | 9 => some [2]
  | _ => none
theorem f_page_Page_refused.does {W : World} {H : HProp} {R : Ending → HProp → Prop} (a0 : Value) (h : exec prog W tab 46 f_page_Page_refused.live (codeOf Go.Proofs.Tryz.f294) (bodyQ prog W tab [.tmp 2] R) (argFr 0 [a0]) [] H) : Does prog W f_page_Page_refused ⟨[a0]⟩ H R :=
  Does.of_exec tab_ok f_page_Page_refused.live Go.Proofs.Tryz.func294 rfl rfl rfl (by simp) h
def f_page_Page_refused.plan7 : List Nat := [0, 1, 2, 3, 4, 5, 6, 7, 8, 9, 10, 11, 12, 13]
def f_page_Page_refused.last7 : List Nat := [11, 12, 13]
noncomputable abbrev f_page_Page_size.def : Func := Go.Proofs.Tryz.f295
theorem f_page_Page_size.fn : prog.funcs[f_page_Page_size]? = some f_page_Page_size.def := Go.Proofs.Tryz.func295
theorem f_page_Page_size.ok : Callable prog f_page_Page_size := callable_of Go.Proofs.Tryz.func295 (by kernel_rfl) rfl
def f_page_Page_size.live : Nat → Option (List Nat) := fun i => match i with
  | 0 => some [1]
  | 1 => some [2]
  | _ => none
theorem f_page_Page_size.does {W : World} {H : HProp} {R : Ending → HProp → Prop} (a0 : Value) (h : exec prog W tab 10 f_page_Page_size.live (codeOf Go.Proofs.Tryz.f295) (bodyQ prog W tab [.tmp 2] R) (argFr 0 [a0]) [] H) : Does prog W f_page_Page_size ⟨[a0]⟩ H R :=
  Does.of_exec tab_ok f_page_Page_size.live Go.Proofs.Tryz.func295 rfl rfl rfl (by simp) h
noncomputable abbrev f_page_laid.def : Func := Go.Proofs.Tryz.f296
theorem f_page_laid.fn : prog.funcs[f_page_laid]? = some f_page_laid.def := Go.Proofs.Tryz.func296
theorem f_page_laid.ok : Callable prog f_page_laid := callable_of Go.Proofs.Tryz.func296 (by kernel_rfl) rfl
def f_page_laid.live : Nat → Option (List Nat) := fun i => match i with
  | 0 => some [0, 1, 2, 10, 11, 12]
  | 1 => some [0, 1, 2, 10, 11, 12, 13]
  | 2 => some [0, 1, 2, 8, 9, 10, 11, 12]
  | 3 => some [0, 1, 2, 8, 10, 11, 12]
  | 4 => some [0, 1, 2, 10, 11, 12]
  | 5 => some [0, 1, 2, 10, 11, 12]
  | _ => none
theorem f_page_laid.does {W : World} {H : HProp} {R : Ending → HProp → Prop} (a0 a1 a2 a3 : Value) (h : exec prog W tab 32 f_page_laid.live (codeOf Go.Proofs.Tryz.f296) (bodyQ prog W tab [] R) (argFr 0 [a0, a1, a2, a3]) [] H) : Does prog W f_page_laid ⟨[a0, a1, a2, a3]⟩ H R :=
  Does.of_exec tab_ok f_page_laid.live Go.Proofs.Tryz.func296 rfl rfl rfl (by simp) h
noncomputable abbrev f_twin_Write_1.def : Func := Go.Proofs.Tryz.f297
theorem f_twin_Write_1.fn : prog.funcs[f_twin_Write_1]? = some f_twin_Write_1.def := Go.Proofs.Tryz.func297
theorem f_twin_Write_1.ok : Callable prog f_twin_Write_1 := callable_of Go.Proofs.Tryz.func297 (by kernel_rfl) rfl
def f_twin_Write_1.live : Nat → Option (List Nat) := fun i => match i with
  | 0 => some []
  | _ => none
theorem f_twin_Write_1.does {W : World} {H : HProp} {R : Ending → HProp → Prop} (a0 : Value) (h : exec prog W tab 3 f_twin_Write_1.live (codeOf Go.Proofs.Tryz.f297) (bodyQ prog W tab [] R) (argFr 0 [a0]) [] H) : Does prog W f_twin_Write_1 ⟨[a0]⟩ H R :=
  Does.of_exec tab_ok f_twin_Write_1.live Go.Proofs.Tryz.func297 rfl rfl rfl (by simp) h
noncomputable abbrev f_field_Reader_next.def : Func := Go.Proofs.Tryz.f338
theorem f_field_Reader_next.fn : prog.funcs[f_field_Reader_next]? = some f_field_Reader_next.def := Go.Proofs.Tryz.func338
theorem f_field_Reader_next.ok : Callable prog f_field_Reader_next := callable_of Go.Proofs.Tryz.func338 (by kernel_rfl) rfl
def f_field_Reader_next.live : Nat → Option (List Nat) := fun i => match i with
  | 0 => some [0]
  | 1 => some [0, 5]
  | 2 => some [0, 5, 16, 17, 18]
  | 3 => some [0, 5, 16, 17, 18, 19]
  | 4 => some [0, 5, 6, 7, 16, 17, 18]
  | 5 => some [0, 5, 6, 7, 16, 17, 18, 24]
  | 6 => some [2, 3, 4]
  | 7 => some [0, 5, 6, 7, 16, 17, 18]
  | 8 => some [0, 5, 6, 7, 16, 17, 18, 34]
  | 9 => some [5, 6, 48]
  | 10 => some [2, 3, 4]
  | 11 => some [2, 3, 4]
  | 12 => some [0, 5, 16, 17, 18]
  | 13 => some [63]
  | 14 => some [2, 3, 4]
  | 15 => some [2, 3, 4]
  | _ => none
theorem f_field_Reader_next.does {W : World} {H : HProp} {R : Ending → HProp → Prop} (a0 : Value) (h : exec prog W tab 64 f_field_Reader_next.live (codeOf Go.Proofs.Tryz.f338) (bodyQ prog W tab [.tmp 2, .tmp 3, .tmp 4] R) (argFr 0 [a0]) [] H) : Does prog W f_field_Reader_next ⟨[a0]⟩ H R :=
  Does.of_exec tab_ok f_field_Reader_next.live Go.Proofs.Tryz.func338 rfl rfl rfl (by simp) h
def f_field_Reader_next.plan2 : List Nat := [0, 1, 2, 3, 4, 5, 6, 7, 8, 9, 10]
def f_field_Reader_next.last2 : List Nat := []
def f_field_Reader_next.plan13 : List Nat := [0, 1, 2, 3, 4, 5, 6, 7, 8, 9, 10]
def f_field_Reader_next.last13 : List Nat := [9, 10]
noncomputable abbrev f_api_Fault_Unwrap.def : Func := Go.Proofs.Tryz.f371
theorem f_api_Fault_Unwrap.fn : prog.funcs[f_api_Fault_Unwrap]? = some f_api_Fault_Unwrap.def := Go.Proofs.Tryz.func371
theorem f_api_Fault_Unwrap.ok : Callable prog f_api_Fault_Unwrap := callable_of Go.Proofs.Tryz.func371 (by kernel_rfl) rfl
def f_api_Fault_Unwrap.live : Nat → Option (List Nat) := fun i => match i with
  | 0 => some [0]
  | 1 => some [2]
  | _ => none
theorem f_api_Fault_Unwrap.does {W : World} {H : HProp} {R : Ending → HProp → Prop} (a0 : Value) (h : exec prog W tab 7 f_api_Fault_Unwrap.live (codeOf Go.Proofs.Tryz.f371) (bodyQ prog W tab [.tmp 2] R) (argFr 0 [a0]) [] H) : Does prog W f_api_Fault_Unwrap ⟨[a0]⟩ H R :=
  Does.of_exec tab_ok f_api_Fault_Unwrap.live Go.Proofs.Tryz.func371 rfl rfl rfl (by simp) h
end Go.Proofs.YtgcknlpkhhpkjaaGreatDoor
