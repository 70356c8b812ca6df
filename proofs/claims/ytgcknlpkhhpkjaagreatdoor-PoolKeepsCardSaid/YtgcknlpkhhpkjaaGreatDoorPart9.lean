/- The numbers of the functions and types by name, the type table, the live slots, the plans of the regions that draw: written by a program (tools/gen.py). No condition. -/
import Derived.Test.YtgcknlpkhhpkjaaGreatDoorProg
import Derived.KernelRfl
import Derived.Test.YtgcknlpkhhpkjaaGreatDoorPart7
namespace Go.Proofs.YtgcknlpkhhpkjaaGreatDoor
open Go Go.SL
abbrev f_z2k : Nat := 4
abbrev f_z3l : Nat := 14
abbrev f_z2y : Nat := 15
abbrev f_z0 : Nat := 16
abbrev f_z8 : Nat := 17
abbrev f_z2e : Nat := 18
abbrev f_z2l : Nat := 19
abbrev f_zn : Nat := 20
abbrev f_z1o : Nat := 21
abbrev f_z12 : Nat := 22
abbrev f_z9 : Nat := 23
abbrev f_z2m : Nat := 24
abbrev f_z2n : Nat := 25
abbrev f_zu : Nat := 26
abbrev f_z22 : Nat := 27
abbrev f_z23 : Nat := 28
abbrev f_zk : Nat := 29
abbrev f_z1p : Nat := 30
abbrev f_z2z : Nat := 31
abbrev f_z2f : Nat := 35
abbrev f_z24 : Nat := 36
abbrev f_z3x : Nat := 37
abbrev f_z44 : Nat := 38
abbrev f_z45 : Nat := 39
abbrev f_zv : Nat := 40
abbrev f_z46 : Nat := 42
abbrev f_zo : Nat := 47
abbrev f_z30 : Nat := 60
abbrev f_log_Open : Nat := 61
abbrev f_z25 : Nat := 62
abbrev f_zl : Nat := 63
abbrev f_z1f : Nat := 64
abbrev f_z31 : Nat := 65
abbrev f_z26 : Nat := 66
abbrev f_z32 : Nat := 67
abbrev f_z3m : Nat := 68
abbrev f_z33 : Nat := 69
abbrev f_z1b : Nat := 70
abbrev f_z1 : Nat := 71
abbrev f_z34 : Nat := 72
abbrev f_z3 : Nat := 73
abbrev f_zc : Nat := 74
abbrev f_z35 : Nat := 75
abbrev f_z36 : Nat := 76
abbrev f_z1c : Nat := 77
abbrev f_z3n : Nat := 78
abbrev f_z2o : Nat := 79
abbrev f_zw : Nat := 80
abbrev f_z1u : Nat := 81
abbrev f_z13 : Nat := 82
abbrev f_zf : Nat := 83
abbrev f_z1g : Nat := 84
abbrev f_twin_get : Nat := 85
abbrev f_page_in : Nat := 86
abbrev f_zd : Nat := 87
abbrev f_zx : Nat := 88
abbrev f_zy : Nat := 89
abbrev f_zg : Nat := 90
abbrev f_zp : Nat := 91
abbrev f_z1d : Nat := 92
abbrev f_z1h : Nat := 93
abbrev f_z42 : Nat := 94
abbrev f_z3o : Nat := 95
abbrev f_z14 : Nat := 96
abbrev f_z1v : Nat := 97
abbrev f_z37 : Nat := 104
abbrev f_z47 : Nat := 116
abbrev f_z1w : Nat := 121
abbrev f_z38 : Nat := 123
abbrev f_zh : Nat := 124
abbrev f_z48 : Nat := 125
abbrev f_z39 : Nat := 126
abbrev f_z49 : Nat := 127
abbrev f_z2p : Nat := 128
abbrev f_z27 : Nat := 129
abbrev f_z4a : Nat := 130
abbrev f_z4b : Nat := 131
abbrev f_z1x : Nat := 132
abbrev f_z2g : Nat := 155
abbrev f_z15 : Nat := 156
abbrev f_zz : Nat := 157
abbrev f_z1i : Nat := 158
abbrev f_z10 : Nat := 159
abbrev f_z11 : Nat := 160
abbrev f_z1y : Nat := 161
abbrev f_z2q : Nat := 162
abbrev f_z1j : Nat := 163
abbrev f_z6 : Nat := 164
abbrev f_z1z : Nat := 165
abbrev f_z28 : Nat := 166
abbrev f_log_own : Nat := 167
abbrev f_z7 : Nat := 168
abbrev f_z2h : Nat := 169
abbrev f_z20 : Nat := 170
abbrev f_z1k : Nat := 171
abbrev f_z16 : Nat := 172
abbrev f_log_laid : Nat := 173
abbrev f_z3a : Nat := 177
abbrev f_z1q : Nat := 178
abbrev f_z3p : Nat := 179
abbrev f_z3b : Nat := 180
abbrev f_z2r : Nat := 181
abbrev f_z43 : Nat := 184
abbrev f_z29 : Nat := 185
abbrev f_zm : Nat := 186
abbrev f_z1r : Nat := 187
abbrev f_z3c : Nat := 188
abbrev f_z3d : Nat := 189
abbrev f_z2s : Nat := 210
abbrev f_z2i : Nat := 211
abbrev f_z3e : Nat := 212
abbrev f_z4c : Nat := 217
abbrev f_zq : Nat := 227
abbrev f_z3f : Nat := 228
abbrev f_z3q : Nat := 229
abbrev f_zb : Nat := 230
abbrev f_z2j : Nat := 231
abbrev f_z2t : Nat := 232
abbrev f_zr : Nat := 233
abbrev f_z2u : Nat := 234
abbrev f_z2v : Nat := 235
abbrev f_z1s : Nat := 236
abbrev f_z1l : Nat := 237
abbrev f_z3r : Nat := 238
abbrev f_z1m : Nat := 239
abbrev f_z4 : Nat := 240
abbrev f_z3s : Nat := 241
abbrev f_z3t : Nat := 242
abbrev f_z3g : Nat := 243
abbrev f_z3h : Nat := 244
abbrev f_z3i : Nat := 245
abbrev f_ze : Nat := 246
abbrev f_z21 : Nat := 247
abbrev f_z2a : Nat := 248
abbrev f_z2b : Nat := 249
abbrev f_z2w : Nat := 286
abbrev f_z3j : Nat := 287
abbrev f_z1e : Nat := 288
abbrev f_zi : Nat := 289
abbrev f_z3u : Nat := 290
abbrev f_zs : Nat := 291
abbrev f_z3v : Nat := 292
abbrev f_z2x : Nat := 293
abbrev f_z17 : Nat := 294
abbrev f_z2c : Nat := 295
abbrev f_z1t : Nat := 296
abbrev f_za : Nat := 297
abbrev f_z18 : Nat := 338
abbrev f_z3k : Nat := 371
abbrev f_math_bits_Add64 : Nat := 349
abbrev f_math_bits_Sub64 : Nat := 350
abbrev t_func : Nat := 1
abbrev t_int64 : Nat := 2
abbrev t_int : Nat := 3
abbrev t_bool : Nat := 4
abbrev t_uint8 : Nat := 5
abbrev t_string : Nat := 9
abbrev t_P_abi_Type : Nat := 17
abbrev t_interface : Nat := 20
abbrev t_api_Shape : Nat := 24
abbrev t_S_quotalaw09_Op : Nat := 25
abbrev t_P_quotalaw09_Store : Nat := 26
abbrev t_S_api_Counter : Nat := 29
abbrev t_S_api_Group : Nat := 30
abbrev t_z19 : Nat := 32
abbrev t_S_uint64 : Nat := 33
abbrev t_api_Loss : Nat := 35
abbrev t_z3w : Nat := 37
abbrev t_z4d : Nat := 38
abbrev t_z2d : Nat := 39
abbrev t_P_pool_Pool : Nat := 40
abbrev t_S_S_quotaref07_Page : Nat := 41
abbrev t_S_int : Nat := 42
abbrev t_z3y : Nat := 44
abbrev t_z2 : Nat := 46
abbrev t_error : Nat := 49
abbrev t_S_uint8 : Nat := 54
abbrev t_page_Page : Nat := 57
abbrev t_S_api_Dirty : Nat := 64
abbrev t_z3z : Nat := 67
abbrev t_api_Range : Nat := 77
abbrev t_z1a : Nat := 79
abbrev t_zt : Nat := 81
abbrev t_api_Dirty : Nat := 83
abbrev t_S_api_Record : Nat := 101
abbrev t_api_Kind : Nat := 119
abbrev t_api_Slot : Nat := 121
abbrev t_S_api_Live : Nat := 122
abbrev t_api_Points : Nat := 124
abbrev t_z1n : Nat := 126
abbrev t_P_pool_frame : Nat := 152
abbrev t_M_int_P_pool_frame : Nat := 153
abbrev t_pool_Pool : Nat := 155
abbrev t_pool_frame : Nat := 157
abbrev t_zj : Nat := 162
abbrev t_uint64 : Nat := 172
abbrev t_uint32 : Nat := 175
abbrev t_iter_Seq_int : Nat := 181
abbrev t_S_api_Pending : Nat := 199
abbrev t_z40 : Nat := 202
abbrev t_z41 : Nat := 204
abbrev t_funcuint8_bool : Nat := 207
abbrev t_S_S_uint8 : Nat := 217
abbrev t_log_Log : Nat := 219
abbrev t_z5 : Nat := 234
abbrev t_api_Fault : Nat := 236
abbrev t_unsafe_Pointer : Nat := 254
abbrev t_reflectlite_flag : Nat := 255
abbrev t_reflectlite_Value : Nat := 257
abbrev t_reflectlite_Type : Nat := 260
abbrev t_abi_Kind : Nat := 262
abbrev t_twin_refusal : Nat := 267
abbrev t_log_refusal : Nat := 317
abbrev t_P_field_Writer : Nat := 327
abbrev t_S_P_int : Nat := 330
abbrev t_S_P_int64 : Nat := 331
abbrev t_P_api_Record : Nat := 334
abbrev t_P_int : Nat := 335
abbrev t_P_int64 : Nat := 336
abbrev t_api_Live : Nat := 339
abbrev t_z4e : Nat := 353
abbrev t_interface_Unwrap_error : Nat := 356
abbrev t_interface_Unwrap_S_error : Nat := 358
abbrev t_S_error : Nat := 359
abbrev t_16_uint32 : Nat := 362
abbrev t_P_field_Reader : Nat := 395
abbrev t_field_Writer : Nat := 401
abbrev t_field_Reader : Nat := 436
abbrev g_page_headSizes : Nat := 0
abbrev g_page_groupSizes : Nat := 1
abbrev g_page_counterSizes : Nat := 2
abbrev g_errors_errorType : Nat := 3
abbrev g_field_nibbles : Nat := 4
noncomputable abbrev prog : Program := Tryz.prog
def findT : List (Nat × TRow) → Nat → Option TRow
 | [], _ => none
 | (k, r) :: l, t => match Nat.beq k t with
  | true => some r
  | false => findT l t
def rows : List (Nat × TRow) := [
 (3, ⟨(.int .i64), [(.int .i64 0)], false, 1, 8⟩),
 (54, ⟨(.slice 5), [(.slice none 0 0)], false, 1, 24⟩),
 (57, ⟨(.struct ⟨[⟨"Number", 3, 0, false, "", "", 0⟩, ⟨"LSN", 3, 1, false, "", "", 8⟩, ⟨"Counters", 29, 2, false, "", "", 16⟩, ⟨"Groups", 30, 3, false, "", "", 40⟩]⟩), [(.int .i64 0), (.int .i64 0), (.slice none 0 0), (.slice none 0 0)], true, 4, 64⟩),
 (126, ⟨(.struct ⟨[⟨"LSN", 3, 0, false, "", "", 0⟩, ⟨"Kind", 119, 1, false, "", "", 8⟩, ⟨"Tx", 3, 2, false, "", "", 16⟩, ⟨"Prev", 3, 3, false, "", "", 24⟩, ⟨"Where", 121, 4, false, "", "", 32⟩, ⟨"Sums", 121, 6, false, "", "", 48⟩, ⟨"Delta", 2, 8, false, "", "", 64⟩, ⟨"Counter", 79, 9, false, "", "", 72⟩, ⟨"Points", 124, 14, false, "", "", 112⟩]⟩), [(.int .i64 0), (.int .i64 0), (.int .i64 0), (.int .i64 0), (.int .i64 0), (.int .i64 0), (.int .i64 0), (.int .i64 0), (.int .i64 0), (.int .i64 0), (.int .i64 0), (.int .i64 0), (.int .i64 0), (.int .i64 0), (.slice none 0 0), (.slice none 0 0), (.int .i64 0)], true, 17, 168⟩),
 (172, ⟨(.int .u64), [(.int .u64 0)], false, 1, 8⟩),
 (46, ⟨(.int .i64), [(.int .i64 0)], false, 1, 8⟩),
 (38, ⟨(.pointer 204), [(.pointer none)], false, 1, 8⟩),
 (49, ⟨(.interface #[("Error", 455)]), [.nilIface], false, 1, 16⟩),
 (32, ⟨(.struct ⟨[⟨"Number", 3, 0, false, "", "", 0⟩, ⟨"LSN", 3, 1, false, "", "", 8⟩, ⟨"Counters", 29, 2, false, "", "", 16⟩, ⟨"Groups", 30, 3, false, "", "", 40⟩]⟩), [(.int .i64 0), (.int .i64 0), (.slice none 0 0), (.slice none 0 0)], true, 4, 64⟩),
 (4, ⟨.bool, [(.bool false)], false, 1, 1⟩),
 (24, ⟨(.struct ⟨[⟨"Pages", 3, 0, false, "", "", 0⟩, ⟨"Log", 3, 1, false, "", "", 8⟩, ⟨"Frames", 3, 2, false, "", "", 16⟩]⟩), [(.int .i64 0), (.int .i64 0), (.int .i64 0)], true, 3, 24⟩),
 (30, ⟨(.slice 81), [(.slice none 0 0)], false, 1, 24⟩),
 (40, ⟨(.pointer 155), [(.pointer none)], false, 1, 8⟩),
 (29, ⟨(.slice 79), [(.slice none 0 0)], false, 1, 24⟩),
 (79, ⟨(.struct ⟨[⟨"ID", 3, 0, false, "", "", 0⟩, ⟨"Group", 3, 1, false, "", "", 8⟩, ⟨"Bounds", 77, 2, false, "", "", 16⟩, ⟨"Value", 2, 4, false, "", "", 32⟩]⟩), [(.int .i64 0), (.int .i64 0), (.int .i64 0), (.int .i64 0), (.int .i64 0)], true, 5, 40⟩),
 (5, ⟨(.int .u8), [(.int .u8 0)], false, 1, 1⟩),
 (39, ⟨(.pointer 219), [(.pointer none)], false, 1, 8⟩),
 (2, ⟨(.int .i64), [(.int .i64 0)], false, 1, 8⟩),
 (219, ⟨(.struct ⟨[⟨"d", 38, 0, false, "", "quota/log", 0⟩, ⟨"first", 3, 1, false, "", "quota/log", 8⟩, ⟨"count", 3, 2, false, "", "quota/log", 16⟩, ⟨"records", 101, 3, false, "", "quota/log", 24⟩, ⟨"bytes", 217, 4, false, "", "quota/log", 48⟩, ⟨"forced", 3, 5, false, "", "quota/log", 72⟩, ⟨"err", 49, 6, false, "", "quota/log", 80⟩]⟩), [(.pointer none), (.int .i64 0), (.int .i64 0), (.slice none 0 0), (.slice none 0 0), (.int .i64 0), .nilIface], true, 7, 96⟩),
 (121, ⟨(.struct ⟨[⟨"Page", 3, 0, false, "", "", 0⟩, ⟨"Index", 3, 1, false, "", "", 8⟩]⟩), [(.int .i64 0), (.int .i64 0)], true, 2, 16⟩),
 (204, ⟨(.struct ⟨[⟨"image", 54, 0, false, "", "quota/sectors", 0⟩, ⟨"pending", 199, 1, false, "", "quota/sectors", 24⟩, ⟨"step", 3, 2, false, "", "quota/sectors", 48⟩, ⟨"loss", 35, 3, false, "", "quota/sectors", 56⟩, ⟨"down", 4, 6, false, "", "quota/sectors", 96⟩, ⟨"calls", 3, 7, false, "", "quota/sectors", 104⟩]⟩), [(.slice none 0 0), (.slice none 0 0), (.int .i64 0), (.slice none 0 0), (.int .i64 0), (.int .i64 0), (.bool false), (.int .i64 0)], true, 8, 112⟩),
 (33, ⟨(.slice 172), [(.slice none 0 0)], false, 1, 24⟩),
 (44, ⟨(.struct ⟨[⟨"s", 24, 0, false, "", "quota/quotalaw09", 0⟩, ⟨"d", 38, 3, false, "", "quota/quotalaw09", 24⟩, ⟨"l", 39, 4, false, "", "quota/quotalaw09", 32⟩, ⟨"q", 40, 5, false, "", "quota/quotalaw09", 40⟩, ⟨"had", 41, 6, false, "", "quota/quotalaw09", 48⟩, ⟨"done", 42, 7, false, "", "quota/quotalaw09", 72⟩]⟩), [(.int .i64 0), (.int .i64 0), (.int .i64 0), (.pointer none), (.pointer none), (.pointer none), (.slice none 0 0), (.slice none 0 0)], true, 8, 96⟩),
 (42, ⟨(.slice 3), [(.slice none 0 0)], false, 1, 24⟩),
 (64, ⟨(.slice 83), [(.slice none 0 0)], false, 1, 24⟩),
 (153, ⟨(.map 3 152), [(.map none)], false, 1, 8⟩),
 (119, ⟨(.int .i64), [(.int .i64 0)], false, 1, 8⟩),
 (155, ⟨(.struct ⟨[⟨"d", 38, 0, false, "", "quota/pool", 0⟩, ⟨"l", 39, 1, false, "", "quota/pool", 8⟩, ⟨"shape", 24, 2, false, "", "quota/pool", 16⟩, ⟨"held", 153, 5, false, "", "quota/pool", 40⟩, ⟨"clock", 3, 6, false, "", "quota/pool", 48⟩, ⟨"ended", 4, 7, false, "", "quota/pool", 56⟩]⟩), [(.pointer none), (.pointer none), (.int .i64 0), (.int .i64 0), (.int .i64 0), (.map none), (.int .i64 0), (.bool false)], true, 8, 64⟩),
 (217, ⟨(.slice 54), [(.slice none 0 0)], false, 1, 24⟩),
 (199, ⟨(.slice 202), [(.slice none 0 0)], false, 1, 24⟩),
 (124, ⟨(.struct ⟨[⟨"Live", 122, 0, false, "", "", 0⟩, ⟨"Dirty", 64, 1, false, "", "", 24⟩, ⟨"Next", 3, 2, false, "", "", 48⟩]⟩), [(.slice none 0 0), (.slice none 0 0), (.int .i64 0)], true, 3, 56⟩),
 (101, ⟨(.slice 126), [(.slice none 0 0)], false, 1, 24⟩),
 (339, ⟨(.struct ⟨[⟨"Tx", 3, 0, false, "", "", 0⟩, ⟨"Last", 3, 1, false, "", "", 8⟩, ⟨"Committed", 4, 2, false, "", "", 16⟩, ⟨"Undoing", 4, 3, false, "", "", 17⟩]⟩), [(.int .i64 0), (.int .i64 0), (.bool false), (.bool false)], true, 4, 24⟩),
 (157, ⟨(.struct ⟨[⟨"state", 57, 0, false, "", "quota/pool", 0⟩, ⟨"pins", 3, 4, false, "", "quota/pool", 64⟩, ⟨"dirty", 4, 5, false, "", "quota/pool", 72⟩, ⟨"since", 3, 6, false, "", "quota/pool", 80⟩, ⟨"used", 3, 7, false, "", "quota/pool", 88⟩]⟩), [(.int .i64 0), (.int .i64 0), (.slice none 0 0), (.slice none 0 0), (.int .i64 0), (.bool false), (.int .i64 0), (.int .i64 0)], true, 8, 96⟩),
 (202, ⟨(.struct ⟨[⟨"Sector", 3, 0, false, "", "", 0⟩, ⟨"Bytes", 54, 1, false, "", "", 8⟩]⟩), [(.int .i64 0), (.slice none 0 0)], true, 2, 32⟩),
 (122, ⟨(.slice 339), [(.slice none 0 0)], false, 1, 24⟩),
 (35, ⟨(.struct ⟨[⟨"Keep", 33, 0, false, "", "", 0⟩, ⟨"Torn", 3, 1, false, "", "", 24⟩, ⟨"Offset", 3, 2, false, "", "", 32⟩]⟩), [(.slice none 0 0), (.int .i64 0), (.int .i64 0)], true, 3, 40⟩),
 (81, ⟨(.struct ⟨[⟨"ID", 3, 0, false, "", "", 0⟩, ⟨"Sum", 2, 1, false, "", "", 8⟩]⟩), [(.int .i64 0), (.int .i64 0)], true, 2, 16⟩),
 (9, ⟨.string, [(.string ⟨#[]⟩)], false, 1, 16⟩),
 (436, ⟨(.struct ⟨[⟨"b", 54, 0, false, "", "quota/field", 0⟩, ⟨"at", 3, 1, false, "", "quota/field", 24⟩, ⟨"err", 46, 2, false, "", "quota/field", 32⟩]⟩), [(.slice none 0 0), (.int .i64 0), (.int .i64 0)], true, 3, 40⟩),
 (37, ⟨(.struct ⟨[⟨"Kind", 3, 0, false, "", "", 0⟩, ⟨"N", 3, 1, false, "", "", 8⟩, ⟨"A", 3, 2, false, "", "", 16⟩, ⟨"X", 32, 3, false, "", "", 24⟩, ⟨"Raw", 4, 7, false, "", "", 88⟩, ⟨"L", 35, 8, false, "", "", 96⟩]⟩), [(.int .i64 0), (.int .i64 0), (.int .i64 0), (.int .i64 0), (.int .i64 0), (.slice none 0 0), (.slice none 0 0), (.bool false), (.slice none 0 0), (.int .i64 0), (.int .i64 0)], true, 11, 136⟩),
 (20, ⟨(.interface #[]), [.nilIface], false, 1, 16⟩),
 (77, ⟨(.struct ⟨[⟨"Lo", 2, 0, false, "", "", 0⟩, ⟨"Hi", 2, 1, false, "", "", 8⟩]⟩), [(.int .i64 0), (.int .i64 0)], true, 2, 16⟩),
 (83, ⟨(.struct ⟨[⟨"Page", 3, 0, false, "", "", 0⟩, ⟨"Since", 3, 1, false, "", "", 8⟩]⟩), [(.int .i64 0), (.int .i64 0)], true, 2, 16⟩),
 (257, ⟨(.struct ⟨[⟨"typ_", 17, 0, false, "", "internal/reflectlite", 0⟩, ⟨"ptr", 254, 1, false, "", "internal/reflectlite", 8⟩, ⟨"flag", 255, 2, true, "", "internal/reflectlite", 16⟩]⟩), [(.pointer none), (.pointer none), (.int .u64 0)], true, 3, 24⟩),
 (395, ⟨(.pointer 436), [(.pointer none)], false, 1, 8⟩),
 (236, ⟨(.struct ⟨[⟨"Call", 9, 0, false, "", "", 0⟩, ⟨"At", 3, 1, false, "", "", 16⟩, ⟨"Err", 49, 2, false, "", "", 24⟩]⟩), [(.string ⟨#[]⟩), (.int .i64 0), .nilIface], true, 3, 40⟩),
 (41, ⟨(.slice 67), [(.slice none 0 0)], false, 1, 24⟩),
 (175, ⟨(.int .u32), [(.int .u32 0)], false, 1, 4⟩),
 (330, ⟨(.slice 335), [(.slice none 0 0)], false, 1, 24⟩),
 (26, ⟨(.pointer 44), [(.pointer none)], false, 1, 8⟩),
 (327, ⟨(.pointer 401), [(.pointer none)], false, 1, 8⟩),
 (67, ⟨(.slice 32), [(.slice none 0 0)], false, 1, 24⟩),
 (317, ⟨(.struct ⟨[⟨"at", 3, 0, false, "", "quota/log", 0⟩, ⟨"e", 46, 1, false, "", "quota/log", 8⟩]⟩), [(.int .i64 0), (.int .i64 0)], true, 2, 16⟩),
 (152, ⟨(.pointer 157), [(.pointer none)], false, 1, 8⟩),
 (234, ⟨(.pointer 236), [(.pointer none)], false, 1, 8⟩),
 (401, ⟨(.struct ⟨[⟨"b", 54, 0, false, "", "quota/field", 0⟩]⟩), [(.slice none 0 0)], true, 1, 24⟩),
 (267, ⟨(.struct ⟨[⟨"err", 46, 0, false, "", "quota/twin", 0⟩]⟩), [(.int .i64 0)], true, 1, 8⟩),
 (331, ⟨(.slice 336), [(.slice none 0 0)], false, 1, 24⟩),
 (260, ⟨(.interface #[("AssignableTo", 264), ("Comparable", 22), ("Elem", 261), ("Implements", 264), ("Kind", 263), ("Name", 455), ("PkgPath", 455), ("Size", 469), ("String", 455), ("internal/reflectlite.common", 461), ("internal/reflectlite.uncommon", 470)]), [.nilIface], false, 1, 16⟩),
 (207, ⟨(.func #[5] #[4] false), [.nilFunc], false, 1, 8⟩),
 (25, ⟨(.slice 37), [(.slice none 0 0)], false, 1, 24⟩),
 (181, ⟨(.func #[270] #[] false), [.nilFunc], false, 1, 8⟩),
 (1, ⟨(.func #[] #[] false), [.nilFunc], false, 1, 8⟩),
 (262, ⟨(.int .u8), [(.int .u8 0)], false, 1, 1⟩),
 (334, ⟨(.pointer 126), [(.pointer none)], false, 1, 8⟩),
 (335, ⟨(.pointer 3), [(.pointer none)], false, 1, 8⟩),
 (336, ⟨(.pointer 2), [(.pointer none)], false, 1, 8⟩),
 (359, ⟨(.slice 49), [(.slice none 0 0)], false, 1, 24⟩),
 (362, ⟨(.array 16 175), [(.int .u32 0), (.int .u32 0), (.int .u32 0), (.int .u32 0), (.int .u32 0), (.int .u32 0), (.int .u32 0), (.int .u32 0), (.int .u32 0), (.int .u32 0), (.int .u32 0), (.int .u32 0), (.int .u32 0), (.int .u32 0), (.int .u32 0), (.int .u32 0)], true, 16, 64⟩),
 (162, ⟨(.pointer 46), [(.pointer none)], false, 1, 8⟩),
 (353, ⟨(.interface #[("As", 355)]), [.nilIface], false, 1, 16⟩),
 (356, ⟨(.interface #[("Unwrap", 357)]), [.nilIface], false, 1, 16⟩),
 (358, ⟨(.interface #[("Unwrap", 360)]), [.nilIface], false, 1, 16⟩),
 (17, ⟨(.pointer 468), [(.pointer none)], false, 1, 8⟩),
 (254, ⟨.unsafePointer, [(.pointer none)], false, 1, 8⟩),
 (255, ⟨(.int .u64), [(.int .u64 0)], false, 1, 8⟩)]
def tab : Tab := fun t => findT rows t
def AllOk (P : Program) : List (Nat × TRow) → Prop
 | [] => True
 | p :: l => p.2.ok P p.1 ∧ AllOk P l
theorem findT_ok {P : Program} : ∀ (l : List (Nat × TRow)), AllOk P l → ∀ t r, findT l t = some r → r.ok P t
 | [], _, _, _, h => by simp [findT] at h
 | (k, r) :: l, ⟨h1, h2⟩, t, r', h => by
  simp only [findT] at h
  split at h
  ·rename_i hb; cases h; obtain rfl := Nat.eq_of_beq_eq_true hb; exact h1
  ·exact findT_ok l h2 t r' h
theorem row3 : TRow.ok prog 3 ⟨(.int .i64), [(.int .i64 0)], false, 1, 8⟩ := ⟨Tryz.underlying3, rfl, Tryz.t3, by kernel_rfl, by kernel_rfl, by kernel_rfl, by kernel_rfl, fun _ => ⟨_, rfl, rfl⟩⟩
theorem row54 : TRow.ok prog 54 ⟨(.slice 5), [(.slice none 0 0)], false, 1, 24⟩ := ⟨Tryz.underlying54, rfl, Tryz.t54, by kernel_rfl, by kernel_rfl, by kernel_rfl, by kernel_rfl, fun _ => ⟨_, rfl, rfl⟩⟩
theorem row57 : TRow.ok prog 57 ⟨(.struct ⟨[⟨"Number", 3, 0, false, "", "", 0⟩, ⟨"LSN", 3, 1, false, "", "", 8⟩, ⟨"Counters", 29, 2, false, "", "", 16⟩, ⟨"Groups", 30, 3, false, "", "", 40⟩]⟩), [(.int .i64 0), (.int .i64 0), (.slice none 0 0), (.slice none 0 0)], true, 4, 64⟩ := ⟨Tryz.underlying57, rfl, Tryz.t57, by kernel_rfl, by kernel_rfl, by kernel_rfl, by kernel_rfl, fun h => by cases h⟩
theorem row126 : TRow.ok prog 126 ⟨(.struct ⟨[⟨"LSN", 3, 0, false, "", "", 0⟩, ⟨"Kind", 119, 1, false, "", "", 8⟩, ⟨"Tx", 3, 2, false, "", "", 16⟩, ⟨"Prev", 3, 3, false, "", "", 24⟩, ⟨"Where", 121, 4, false, "", "", 32⟩, ⟨"Sums", 121, 6, false, "", "", 48⟩, ⟨"Delta", 2, 8, false, "", "", 64⟩, ⟨"Counter", 79, 9, false, "", "", 72⟩, ⟨"Points", 124, 14, false, "", "", 112⟩]⟩), [(.int .i64 0), (.int .i64 0), (.int .i64 0), (.int .i64 0), (.int .i64 0), (.int .i64 0), (.int .i64 0), (.int .i64 0), (.int .i64 0), (.int .i64 0), (.int .i64 0), (.int .i64 0), (.int .i64 0), (.int .i64 0), (.slice none 0 0), (.slice none 0 0), (.int .i64 0)], true, 17, 168⟩ := ⟨Tryz.underlying126, rfl, Tryz.t126, by kernel_rfl, by kernel_rfl, by kernel_rfl, by kernel_rfl, fun h => by cases h⟩
theorem row172 : TRow.ok prog 172 ⟨(.int .u64), [(.int .u64 0)], false, 1, 8⟩ := ⟨Tryz.underlying172, rfl, Tryz.t172, by kernel_rfl, by kernel_rfl, by kernel_rfl, by kernel_rfl, fun _ => ⟨_, rfl, rfl⟩⟩
theorem row46 : TRow.ok prog 46 ⟨(.int .i64), [(.int .i64 0)], false, 1, 8⟩ := ⟨Tryz.underlying46, rfl, Tryz.t46, by kernel_rfl, by kernel_rfl, by kernel_rfl, by kernel_rfl, fun _ => ⟨_, rfl, rfl⟩⟩
theorem row38 : TRow.ok prog 38 ⟨(.pointer 204), [(.pointer none)], false, 1, 8⟩ := ⟨Tryz.underlying38, rfl, Tryz.t38, by kernel_rfl, by kernel_rfl, by kernel_rfl, by kernel_rfl, fun _ => ⟨_, rfl, rfl⟩⟩
theorem row49 : TRow.ok prog 49 ⟨(.interface #[("Error", 455)]), [.nilIface], false, 1, 16⟩ := ⟨Tryz.underlying49, rfl, Tryz.t49, by kernel_rfl, by kernel_rfl, by kernel_rfl, by kernel_rfl, fun _ => ⟨_, rfl, rfl⟩⟩
theorem row32 : TRow.ok prog 32 ⟨(.struct ⟨[⟨"Number", 3, 0, false, "", "", 0⟩, ⟨"LSN", 3, 1, false, "", "", 8⟩, ⟨"Counters", 29, 2, false, "", "", 16⟩, ⟨"Groups", 30, 3, false, "", "", 40⟩]⟩), [(.int .i64 0), (.int .i64 0), (.slice none 0 0), (.slice none 0 0)], true, 4, 64⟩ := ⟨Tryz.underlying32, rfl, Tryz.t32, by kernel_rfl, by kernel_rfl, by kernel_rfl, by kernel_rfl, fun h => by cases h⟩
theorem row4 : TRow.ok prog 4 ⟨.bool, [(.bool false)], false, 1, 1⟩ := ⟨Tryz.underlying4, rfl, Tryz.t4, by kernel_rfl, by kernel_rfl, by kernel_rfl, by kernel_rfl, fun _ => ⟨_, rfl, rfl⟩⟩
theorem row24 : TRow.ok prog 24 ⟨(.struct ⟨[⟨"Pages", 3, 0, false, "", "", 0⟩, ⟨"Log", 3, 1, false, "", "", 8⟩, ⟨"Frames", 3, 2, false, "", "", 16⟩]⟩), [(.int .i64 0), (.int .i64 0), (.int .i64 0)], true, 3, 24⟩ := ⟨Tryz.underlying24, rfl, Tryz.t24, by kernel_rfl, by kernel_rfl, by kernel_rfl, by kernel_rfl, fun h => by cases h⟩
theorem row30 : TRow.ok prog 30 ⟨(.slice 81), [(.slice none 0 0)], false, 1, 24⟩ := ⟨Tryz.underlying30, rfl, Tryz.t30, by kernel_rfl, by kernel_rfl, by kernel_rfl, by kernel_rfl, fun _ => ⟨_, rfl, rfl⟩⟩
theorem row40 : TRow.ok prog 40 ⟨(.pointer 155), [(.pointer none)], false, 1, 8⟩ := ⟨Tryz.underlying40, rfl, Tryz.t40, by kernel_rfl, by kernel_rfl, by kernel_rfl, by kernel_rfl, fun _ => ⟨_, rfl, rfl⟩⟩
theorem row29 : TRow.ok prog 29 ⟨(.slice 79), [(.slice none 0 0)], false, 1, 24⟩ := ⟨Tryz.underlying29, rfl, Tryz.t29, by kernel_rfl, by kernel_rfl, by kernel_rfl, by kernel_rfl, fun _ => ⟨_, rfl, rfl⟩⟩
theorem row79 : TRow.ok prog 79 ⟨(.struct ⟨[⟨"ID", 3, 0, false, "", "", 0⟩, ⟨"Group", 3, 1, false, "", "", 8⟩, ⟨"Bounds", 77, 2, false, "", "", 16⟩, ⟨"Value", 2, 4, false, "", "", 32⟩]⟩), [(.int .i64 0), (.int .i64 0), (.int .i64 0), (.int .i64 0), (.int .i64 0)], true, 5, 40⟩ := ⟨Tryz.underlying79, rfl, Tryz.t79, by kernel_rfl, by kernel_rfl, by kernel_rfl, by kernel_rfl, fun h => by cases h⟩
theorem row5 : TRow.ok prog 5 ⟨(.int .u8), [(.int .u8 0)], false, 1, 1⟩ := ⟨Tryz.underlying5, rfl, Tryz.t5, by kernel_rfl, by kernel_rfl, by kernel_rfl, by kernel_rfl, fun _ => ⟨_, rfl, rfl⟩⟩
theorem row39 : TRow.ok prog 39 ⟨(.pointer 219), [(.pointer none)], false, 1, 8⟩ := ⟨Tryz.underlying39, rfl, Tryz.t39, by kernel_rfl, by kernel_rfl, by kernel_rfl, by kernel_rfl, fun _ => ⟨_, rfl, rfl⟩⟩
theorem row2 : TRow.ok prog 2 ⟨(.int .i64), [(.int .i64 0)], false, 1, 8⟩ := ⟨Tryz.underlying2, rfl, Tryz.t2, by kernel_rfl, by kernel_rfl, by kernel_rfl, by kernel_rfl, fun _ => ⟨_, rfl, rfl⟩⟩
theorem row219 : TRow.ok prog 219 ⟨(.struct ⟨[⟨"d", 38, 0, false, "", "quota/log", 0⟩, ⟨"first", 3, 1, false, "", "quota/log", 8⟩, ⟨"count", 3, 2, false, "", "quota/log", 16⟩, ⟨"records", 101, 3, false, "", "quota/log", 24⟩, ⟨"bytes", 217, 4, false, "", "quota/log", 48⟩, ⟨"forced", 3, 5, false, "", "quota/log", 72⟩, ⟨"err", 49, 6, false, "", "quota/log", 80⟩]⟩), [(.pointer none), (.int .i64 0), (.int .i64 0), (.slice none 0 0), (.slice none 0 0), (.int .i64 0), .nilIface], true, 7, 96⟩ := ⟨Tryz.underlying219, rfl, Tryz.t219, by kernel_rfl, by kernel_rfl, by kernel_rfl, by kernel_rfl, fun h => by cases h⟩
theorem row121 : TRow.ok prog 121 ⟨(.struct ⟨[⟨"Page", 3, 0, false, "", "", 0⟩, ⟨"Index", 3, 1, false, "", "", 8⟩]⟩), [(.int .i64 0), (.int .i64 0)], true, 2, 16⟩ := ⟨Tryz.underlying121, rfl, Tryz.t121, by kernel_rfl, by kernel_rfl, by kernel_rfl, by kernel_rfl, fun h => by cases h⟩
theorem row204 : TRow.ok prog 204 ⟨(.struct ⟨[⟨"image", 54, 0, false, "", "quota/sectors", 0⟩, ⟨"pending", 199, 1, false, "", "quota/sectors", 24⟩, ⟨"step", 3, 2, false, "", "quota/sectors", 48⟩, ⟨"loss", 35, 3, false, "", "quota/sectors", 56⟩, ⟨"down", 4, 6, false, "", "quota/sectors", 96⟩, ⟨"calls", 3, 7, false, "", "quota/sectors", 104⟩]⟩), [(.slice none 0 0), (.slice none 0 0), (.int .i64 0), (.slice none 0 0), (.int .i64 0), (.int .i64 0), (.bool false), (.int .i64 0)], true, 8, 112⟩ := ⟨Tryz.underlying204, rfl, Tryz.t204, by kernel_rfl, by kernel_rfl, by kernel_rfl, by kernel_rfl, fun h => by cases h⟩
theorem row33 : TRow.ok prog 33 ⟨(.slice 172), [(.slice none 0 0)], false, 1, 24⟩ := ⟨Tryz.underlying33, rfl, Tryz.t33, by kernel_rfl, by kernel_rfl, by kernel_rfl, by kernel_rfl, fun _ => ⟨_, rfl, rfl⟩⟩
theorem row44 : TRow.ok prog 44 ⟨(.struct ⟨[⟨"s", 24, 0, false, "", "quota/quotalaw09", 0⟩, ⟨"d", 38, 3, false, "", "quota/quotalaw09", 24⟩, ⟨"l", 39, 4, false, "", "quota/quotalaw09", 32⟩, ⟨"q", 40, 5, false, "", "quota/quotalaw09", 40⟩, ⟨"had", 41, 6, false, "", "quota/quotalaw09", 48⟩, ⟨"done", 42, 7, false, "", "quota/quotalaw09", 72⟩]⟩), [(.int .i64 0), (.int .i64 0), (.int .i64 0), (.pointer none), (.pointer none), (.pointer none), (.slice none 0 0), (.slice none 0 0)], true, 8, 96⟩ := ⟨Tryz.underlying44, rfl, Tryz.t44, by kernel_rfl, by kernel_rfl, by kernel_rfl, by kernel_rfl, fun h => by cases h⟩
theorem row42 : TRow.ok prog 42 ⟨(.slice 3), [(.slice none 0 0)], false, 1, 24⟩ := ⟨Tryz.underlying42, rfl, Tryz.t42, by kernel_rfl, by kernel_rfl, by kernel_rfl, by kernel_rfl, fun _ => ⟨_, rfl, rfl⟩⟩
theorem row64 : TRow.ok prog 64 ⟨(.slice 83), [(.slice none 0 0)], false, 1, 24⟩ := ⟨Tryz.underlying64, rfl, Tryz.t64, by kernel_rfl, by kernel_rfl, by kernel_rfl, by kernel_rfl, fun _ => ⟨_, rfl, rfl⟩⟩
theorem row153 : TRow.ok prog 153 ⟨(.map 3 152), [(.map none)], false, 1, 8⟩ := ⟨Tryz.underlying153, rfl, Tryz.t153, by kernel_rfl, by kernel_rfl, by kernel_rfl, by kernel_rfl, fun _ => ⟨_, rfl, rfl⟩⟩
theorem row119 : TRow.ok prog 119 ⟨(.int .i64), [(.int .i64 0)], false, 1, 8⟩ := ⟨Tryz.underlying119, rfl, Tryz.t119, by kernel_rfl, by kernel_rfl, by kernel_rfl, by kernel_rfl, fun _ => ⟨_, rfl, rfl⟩⟩
theorem row155 : TRow.ok prog 155 ⟨(.struct ⟨[⟨"d", 38, 0, false, "", "quota/pool", 0⟩, ⟨"l", 39, 1, false, "", "quota/pool", 8⟩, ⟨"shape", 24, 2, false, "", "quota/pool", 16⟩, ⟨"held", 153, 5, false, "", "quota/pool", 40⟩, ⟨"clock", 3, 6, false, "", "quota/pool", 48⟩, ⟨"ended", 4, 7, false, "", "quota/pool", 56⟩]⟩), [(.pointer none), (.pointer none), (.int .i64 0), (.int .i64 0), (.int .i64 0), (.map none), (.int .i64 0), (.bool false)], true, 8, 64⟩ := ⟨Tryz.underlying155, rfl, Tryz.t155, by kernel_rfl, by kernel_rfl, by kernel_rfl, by kernel_rfl, fun h => by cases h⟩
theorem row217 : TRow.ok prog 217 ⟨(.slice 54), [(.slice none 0 0)], false, 1, 24⟩ := ⟨Tryz.underlying217, rfl, Tryz.t217, by kernel_rfl, by kernel_rfl, by kernel_rfl, by kernel_rfl, fun _ => ⟨_, rfl, rfl⟩⟩
theorem row199 : TRow.ok prog 199 ⟨(.slice 202), [(.slice none 0 0)], false, 1, 24⟩ := ⟨Tryz.underlying199, rfl, Tryz.t199, by kernel_rfl, by kernel_rfl, by kernel_rfl, by kernel_rfl, fun _ => ⟨_, rfl, rfl⟩⟩
theorem row124 : TRow.ok prog 124 ⟨(.struct ⟨[⟨"Live", 122, 0, false, "", "", 0⟩, ⟨"Dirty", 64, 1, false, "", "", 24⟩, ⟨"Next", 3, 2, false, "", "", 48⟩]⟩), [(.slice none 0 0), (.slice none 0 0), (.int .i64 0)], true, 3, 56⟩ := ⟨Tryz.underlying124, rfl, Tryz.t124, by kernel_rfl, by kernel_rfl, by kernel_rfl, by kernel_rfl, fun h => by cases h⟩
theorem row101 : TRow.ok prog 101 ⟨(.slice 126), [(.slice none 0 0)], false, 1, 24⟩ := ⟨Tryz.underlying101, rfl, Tryz.t101, by kernel_rfl, by kernel_rfl, by kernel_rfl, by kernel_rfl, fun _ => ⟨_, rfl, rfl⟩⟩
theorem row339 : TRow.ok prog 339 ⟨(.struct ⟨[⟨"Tx", 3, 0, false, "", "", 0⟩, ⟨"Last", 3, 1, false, "", "", 8⟩, ⟨"Committed", 4, 2, false, "", "", 16⟩, ⟨"Undoing", 4, 3, false, "", "", 17⟩]⟩), [(.int .i64 0), (.int .i64 0), (.bool false), (.bool false)], true, 4, 24⟩ := ⟨Tryz.underlying339, rfl, Tryz.t339, by kernel_rfl, by kernel_rfl, by kernel_rfl, by kernel_rfl, fun h => by cases h⟩
theorem row157 : TRow.ok prog 157 ⟨(.struct ⟨[⟨"state", 57, 0, false, "", "quota/pool", 0⟩, ⟨"pins", 3, 4, false, "", "quota/pool", 64⟩, ⟨"dirty", 4, 5, false, "", "quota/pool", 72⟩, ⟨"since", 3, 6, false, "", "quota/pool", 80⟩, ⟨"used", 3, 7, false, "", "quota/pool", 88⟩]⟩), [(.int .i64 0), (.int .i64 0), (.slice none 0 0), (.slice none 0 0), (.int .i64 0), (.bool false), (.int .i64 0), (.int .i64 0)], true, 8, 96⟩ := ⟨Tryz.underlying157, rfl, Tryz.t157, by kernel_rfl, by kernel_rfl, by kernel_rfl, by kernel_rfl, fun h => by cases h⟩
theorem row202 : TRow.ok prog 202 ⟨(.struct ⟨[⟨"Sector", 3, 0, false, "", "", 0⟩, ⟨"Bytes", 54, 1, false, "", "", 8⟩]⟩), [(.int .i64 0), (.slice none 0 0)], true, 2, 32⟩ := ⟨Tryz.underlying202, rfl, Tryz.t202, by kernel_rfl, by kernel_rfl, by kernel_rfl, by kernel_rfl, fun h => by cases h⟩
theorem row122 : TRow.ok prog 122 ⟨(.slice 339), [(.slice none 0 0)], false, 1, 24⟩ := ⟨Tryz.underlying122, rfl, Tryz.t122, by kernel_rfl, by kernel_rfl, by kernel_rfl, by kernel_rfl, fun _ => ⟨_, rfl, rfl⟩⟩
theorem row35 : TRow.ok prog 35 ⟨(.struct ⟨[⟨"Keep", 33, 0, false, "", "", 0⟩, ⟨"Torn", 3, 1, false, "", "", 24⟩, ⟨"Offset", 3, 2, false, "", "", 32⟩]⟩), [(.slice none 0 0), (.int .i64 0), (.int .i64 0)], true, 3, 40⟩ := ⟨Tryz.underlying35, rfl, Tryz.t35, by kernel_rfl, by kernel_rfl, by kernel_rfl, by kernel_rfl, fun h => by cases h⟩
theorem row81 : TRow.ok prog 81 ⟨(.struct ⟨[⟨"ID", 3, 0, false, "", "", 0⟩, ⟨"Sum", 2, 1, false, "", "", 8⟩]⟩), [(.int .i64 0), (.int .i64 0)], true, 2, 16⟩ := ⟨Tryz.underlying81, rfl, Tryz.t81, by kernel_rfl, by kernel_rfl, by kernel_rfl, by kernel_rfl, fun h => by cases h⟩
theorem row9 : TRow.ok prog 9 ⟨.string, [(.string ⟨#[]⟩)], false, 1, 16⟩ := ⟨Tryz.underlying9, rfl, Tryz.t9, by kernel_rfl, by kernel_rfl, by kernel_rfl, by kernel_rfl, fun _ => ⟨_, rfl, rfl⟩⟩
theorem row436 : TRow.ok prog 436 ⟨(.struct ⟨[⟨"b", 54, 0, false, "", "quota/field", 0⟩, ⟨"at", 3, 1, false, "", "quota/field", 24⟩, ⟨"err", 46, 2, false, "", "quota/field", 32⟩]⟩), [(.slice none 0 0), (.int .i64 0), (.int .i64 0)], true, 3, 40⟩ := ⟨Tryz.underlying436, rfl, Tryz.t436, by kernel_rfl, by kernel_rfl, by kernel_rfl, by kernel_rfl, fun h => by cases h⟩
theorem row37 : TRow.ok prog 37 ⟨(.struct ⟨[⟨"Kind", 3, 0, false, "", "", 0⟩, ⟨"N", 3, 1, false, "", "", 8⟩, ⟨"A", 3, 2, false, "", "", 16⟩, ⟨"X", 32, 3, false, "", "", 24⟩, ⟨"Raw", 4, 7, false, "", "", 88⟩, ⟨"L", 35, 8, false, "", "", 96⟩]⟩), [(.int .i64 0), (.int .i64 0), (.int .i64 0), (.int .i64 0), (.int .i64 0), (.slice none 0 0), (.slice none 0 0), (.bool false), (.slice none 0 0), (.int .i64 0), (.int .i64 0)], true, 11, 136⟩ := ⟨Tryz.underlying37, rfl, Tryz.t37, by kernel_rfl, by kernel_rfl, by kernel_rfl, by kernel_rfl, fun h => by cases h⟩
theorem row20 : TRow.ok prog 20 ⟨(.interface #[]), [.nilIface], false, 1, 16⟩ := ⟨Tryz.underlying20, rfl, Tryz.t20, by kernel_rfl, by kernel_rfl, by kernel_rfl, by kernel_rfl, fun _ => ⟨_, rfl, rfl⟩⟩
theorem row77 : TRow.ok prog 77 ⟨(.struct ⟨[⟨"Lo", 2, 0, false, "", "", 0⟩, ⟨"Hi", 2, 1, false, "", "", 8⟩]⟩), [(.int .i64 0), (.int .i64 0)], true, 2, 16⟩ := ⟨Tryz.underlying77, rfl, Tryz.t77, by kernel_rfl, by kernel_rfl, by kernel_rfl, by kernel_rfl, fun h => by cases h⟩
theorem row83 : TRow.ok prog 83 ⟨(.struct ⟨[⟨"Page", 3, 0, false, "", "", 0⟩, ⟨"Since", 3, 1, false, "", "", 8⟩]⟩), [(.int .i64 0), (.int .i64 0)], true, 2, 16⟩ := ⟨Tryz.underlying83, rfl, Tryz.t83, by kernel_rfl, by kernel_rfl, by kernel_rfl, by kernel_rfl, fun h => by cases h⟩
theorem row257 : TRow.ok prog 257 ⟨(.struct ⟨[⟨"typ_", 17, 0, false, "", "internal/reflectlite", 0⟩, ⟨"ptr", 254, 1, false, "", "internal/reflectlite", 8⟩, ⟨"flag", 255, 2, true, "", "internal/reflectlite", 16⟩]⟩), [(.pointer none), (.pointer none), (.int .u64 0)], true, 3, 24⟩ := ⟨Tryz.underlying257, rfl, Tryz.t257, by kernel_rfl, by kernel_rfl, by kernel_rfl, by kernel_rfl, fun h => by cases h⟩
theorem row395 : TRow.ok prog 395 ⟨(.pointer 436), [(.pointer none)], false, 1, 8⟩ := ⟨Tryz.underlying395, rfl, Tryz.t395, by kernel_rfl, by kernel_rfl, by kernel_rfl, by kernel_rfl, fun _ => ⟨_, rfl, rfl⟩⟩
theorem row236 : TRow.ok prog 236 ⟨(.struct ⟨[⟨"Call", 9, 0, false, "", "", 0⟩, ⟨"At", 3, 1, false, "", "", 16⟩, ⟨"Err", 49, 2, false, "", "", 24⟩]⟩), [(.string ⟨#[]⟩), (.int .i64 0), .nilIface], true, 3, 40⟩ := ⟨Tryz.underlying236, rfl, Tryz.t236, by kernel_rfl, by kernel_rfl, by kernel_rfl, by kernel_rfl, fun h => by cases h⟩
theorem row41 : TRow.ok prog 41 ⟨(.slice 67), [(.slice none 0 0)], false, 1, 24⟩ := ⟨Tryz.underlying41, rfl, Tryz.t41, by kernel_rfl, by kernel_rfl, by kernel_rfl, by kernel_rfl, fun _ => ⟨_, rfl, rfl⟩⟩
theorem row175 : TRow.ok prog 175 ⟨(.int .u32), [(.int .u32 0)], false, 1, 4⟩ := ⟨Tryz.underlying175, rfl, Tryz.t175, by kernel_rfl, by kernel_rfl, by kernel_rfl, by kernel_rfl, fun _ => ⟨_, rfl, rfl⟩⟩
theorem row330 : TRow.ok prog 330 ⟨(.slice 335), [(.slice none 0 0)], false, 1, 24⟩ := ⟨Tryz.underlying330, rfl, Tryz.t330, by kernel_rfl, by kernel_rfl, by kernel_rfl, by kernel_rfl, fun _ => ⟨_, rfl, rfl⟩⟩
theorem row26 : TRow.ok prog 26 ⟨(.pointer 44), [(.pointer none)], false, 1, 8⟩ := ⟨Tryz.underlying26, rfl, Tryz.t26, by kernel_rfl, by kernel_rfl, by kernel_rfl, by kernel_rfl, fun _ => ⟨_, rfl, rfl⟩⟩
theorem row327 : TRow.ok prog 327 ⟨(.pointer 401), [(.pointer none)], false, 1, 8⟩ := ⟨Tryz.underlying327, rfl, Tryz.t327, by kernel_rfl, by kernel_rfl, by kernel_rfl, by kernel_rfl, fun _ => ⟨_, rfl, rfl⟩⟩
theorem row67 : TRow.ok prog 67 ⟨(.slice 32), [(.slice none 0 0)], false, 1, 24⟩ := ⟨Tryz.underlying67, rfl, Tryz.t67, by kernel_rfl, by kernel_rfl, by kernel_rfl, by kernel_rfl, fun _ => ⟨_, rfl, rfl⟩⟩
theorem row317 : TRow.ok prog 317 ⟨(.struct ⟨[⟨"at", 3, 0, false, "", "quota/log", 0⟩, ⟨"e", 46, 1, false, "", "quota/log", 8⟩]⟩), [(.int .i64 0), (.int .i64 0)], true, 2, 16⟩ := ⟨Tryz.underlying317, rfl, Tryz.t317, by kernel_rfl, by kernel_rfl, by kernel_rfl, by kernel_rfl, fun h => by cases h⟩
theorem row152 : TRow.ok prog 152 ⟨(.pointer 157), [(.pointer none)], false, 1, 8⟩ := ⟨Tryz.underlying152, rfl, Tryz.t152, by kernel_rfl, by kernel_rfl, by kernel_rfl, by kernel_rfl, fun _ => ⟨_, rfl, rfl⟩⟩
theorem row234 : TRow.ok prog 234 ⟨(.pointer 236), [(.pointer none)], false, 1, 8⟩ := ⟨Tryz.underlying234, rfl, Tryz.t234, by kernel_rfl, by kernel_rfl, by kernel_rfl, by kernel_rfl, fun _ => ⟨_, rfl, rfl⟩⟩
theorem row401 : TRow.ok prog 401 ⟨(.struct ⟨[⟨"b", 54, 0, false, "", "quota/field", 0⟩]⟩), [(.slice none 0 0)], true, 1, 24⟩ := ⟨Tryz.underlying401, rfl, Tryz.t401, by kernel_rfl, by kernel_rfl, by kernel_rfl, by kernel_rfl, fun h => by cases h⟩
theorem row267 : TRow.ok prog 267 ⟨(.struct ⟨[⟨"err", 46, 0, false, "", "quota/twin", 0⟩]⟩), [(.int .i64 0)], true, 1, 8⟩ := ⟨Tryz.underlying267, rfl, Tryz.t267, by kernel_rfl, by kernel_rfl, by kernel_rfl, by kernel_rfl, fun h => by cases h⟩
theorem row331 : TRow.ok prog 331 ⟨(.slice 336), [(.slice none 0 0)], false, 1, 24⟩ := ⟨Tryz.underlying331, rfl, Tryz.t331, by kernel_rfl, by kernel_rfl, by kernel_rfl, by kernel_rfl, fun _ => ⟨_, rfl, rfl⟩⟩
theorem row260 : TRow.ok prog 260 ⟨(.interface #[("AssignableTo", 264), ("Comparable", 22), ("Elem", 261), ("Implements", 264), ("Kind", 263), ("Name", 455), ("PkgPath", 455), ("Size", 469), ("String", 455), ("internal/reflectlite.common", 461), ("internal/reflectlite.uncommon", 470)]), [.nilIface], false, 1, 16⟩ := ⟨Tryz.underlying260, rfl, Tryz.t260, by kernel_rfl, by kernel_rfl, by kernel_rfl, by kernel_rfl, fun _ => ⟨_, rfl, rfl⟩⟩
theorem row207 : TRow.ok prog 207 ⟨(.func #[5] #[4] false), [.nilFunc], false, 1, 8⟩ := ⟨Tryz.underlying207, rfl, Tryz.t207, by kernel_rfl, by kernel_rfl, by kernel_rfl, by kernel_rfl, fun _ => ⟨_, rfl, rfl⟩⟩
theorem row25 : TRow.ok prog 25 ⟨(.slice 37), [(.slice none 0 0)], false, 1, 24⟩ := ⟨Tryz.underlying25, rfl, Tryz.t25, by kernel_rfl, by kernel_rfl, by kernel_rfl, by kernel_rfl, fun _ => ⟨_, rfl, rfl⟩⟩
theorem row181 : TRow.ok prog 181 ⟨(.func #[270] #[] false), [.nilFunc], false, 1, 8⟩ := ⟨Tryz.underlying181, rfl, Tryz.t181, by kernel_rfl, by kernel_rfl, by kernel_rfl, by kernel_rfl, fun _ => ⟨_, rfl, rfl⟩⟩
theorem row1 : TRow.ok prog 1 ⟨(.func #[] #[] false), [.nilFunc], false, 1, 8⟩ := ⟨Tryz.underlying1, rfl, Tryz.t1, by kernel_rfl, by kernel_rfl, by kernel_rfl, by kernel_rfl, fun _ => ⟨_, rfl, rfl⟩⟩
theorem row262 : TRow.ok prog 262 ⟨(.int .u8), [(.int .u8 0)], false, 1, 1⟩ := ⟨Tryz.underlying262, rfl, Tryz.t262, by kernel_rfl, by kernel_rfl, by kernel_rfl, by kernel_rfl, fun _ => ⟨_, rfl, rfl⟩⟩
theorem row334 : TRow.ok prog 334 ⟨(.pointer 126), [(.pointer none)], false, 1, 8⟩ := ⟨Tryz.underlying334, rfl, Tryz.t334, by kernel_rfl, by kernel_rfl, by kernel_rfl, by kernel_rfl, fun _ => ⟨_, rfl, rfl⟩⟩
theorem row335 : TRow.ok prog 335 ⟨(.pointer 3), [(.pointer none)], false, 1, 8⟩ := ⟨Tryz.underlying335, rfl, Tryz.t335, by kernel_rfl, by kernel_rfl, by kernel_rfl, by kernel_rfl, fun _ => ⟨_, rfl, rfl⟩⟩
theorem row336 : TRow.ok prog 336 ⟨(.pointer 2), [(.pointer none)], false, 1, 8⟩ := ⟨Tryz.underlying336, rfl, Tryz.t336, by kernel_rfl, by kernel_rfl, by kernel_rfl, by kernel_rfl, fun _ => ⟨_, rfl, rfl⟩⟩
theorem row359 : TRow.ok prog 359 ⟨(.slice 49), [(.slice none 0 0)], false, 1, 24⟩ := ⟨Tryz.underlying359, rfl, Tryz.t359, by kernel_rfl, by kernel_rfl, by kernel_rfl, by kernel_rfl, fun _ => ⟨_, rfl, rfl⟩⟩
theorem row362 : TRow.ok prog 362 ⟨(.array 16 175), [(.int .u32 0), (.int .u32 0), (.int .u32 0), (.int .u32 0), (.int .u32 0), (.int .u32 0), (.int .u32 0), (.int .u32 0), (.int .u32 0), (.int .u32 0), (.int .u32 0), (.int .u32 0), (.int .u32 0), (.int .u32 0), (.int .u32 0), (.int .u32 0)], true, 16, 64⟩ := ⟨Tryz.underlying362, rfl, Tryz.t362, by kernel_rfl, by kernel_rfl, by kernel_rfl, by kernel_rfl, fun h => by cases h⟩
theorem row162 : TRow.ok prog 162 ⟨(.pointer 46), [(.pointer none)], false, 1, 8⟩ := ⟨Tryz.underlying162, rfl, Tryz.t162, by kernel_rfl, by kernel_rfl, by kernel_rfl, by kernel_rfl, fun _ => ⟨_, rfl, rfl⟩⟩
theorem row353 : TRow.ok prog 353 ⟨(.interface #[("As", 355)]), [.nilIface], false, 1, 16⟩ := ⟨Tryz.underlying353, rfl, Tryz.t353, by kernel_rfl, by kernel_rfl, by kernel_rfl, by kernel_rfl, fun _ => ⟨_, rfl, rfl⟩⟩
theorem row356 : TRow.ok prog 356 ⟨(.interface #[("Unwrap", 357)]), [.nilIface], false, 1, 16⟩ := ⟨Tryz.underlying356, rfl, Tryz.t356, by kernel_rfl, by kernel_rfl, by kernel_rfl, by kernel_rfl, fun _ => ⟨_, rfl, rfl⟩⟩
theorem row358 : TRow.ok prog 358 ⟨(.interface #[("Unwrap", 360)]), [.nilIface], false, 1, 16⟩ := ⟨Tryz.underlying358, rfl, Tryz.t358, by kernel_rfl, by kernel_rfl, by kernel_rfl, by kernel_rfl, fun _ => ⟨_, rfl, rfl⟩⟩
theorem row17 : TRow.ok prog 17 ⟨(.pointer 468), [(.pointer none)], false, 1, 8⟩ := ⟨Tryz.underlying17, rfl, Tryz.t17, by kernel_rfl, by kernel_rfl, by kernel_rfl, by kernel_rfl, fun _ => ⟨_, rfl, rfl⟩⟩
theorem row254 : TRow.ok prog 254 ⟨.unsafePointer, [(.pointer none)], false, 1, 8⟩ := ⟨Tryz.underlying254, rfl, Tryz.t254, by kernel_rfl, by kernel_rfl, by kernel_rfl, by kernel_rfl, fun _ => ⟨_, rfl, rfl⟩⟩
theorem row255 : TRow.ok prog 255 ⟨(.int .u64), [(.int .u64 0)], false, 1, 8⟩ := ⟨Tryz.underlying255, rfl, Tryz.t255, by kernel_rfl, by kernel_rfl, by kernel_rfl, by kernel_rfl, fun _ => ⟨_, rfl, rfl⟩⟩
theorem u_int : prog.underlying t_int = some (.int .i64) := Tryz.underlying3
theorem u_uint64 : prog.underlying t_uint64 = some (.int .u64) := Tryz.underlying172
theorem u_quotaref07_Page : prog.underlying t_z19 = some (.struct ⟨[⟨"Number", 3, 0, false, "", "", 0⟩, ⟨"LSN", 3, 1, false, "", "", 8⟩, ⟨"Counters", 29, 2, false, "", "", 16⟩, ⟨"Groups", 30, 3, false, "", "", 40⟩]⟩) := Tryz.underlying32
theorem u_bool : prog.underlying t_bool = some .bool := Tryz.underlying4
theorem u_api_Shape : prog.underlying t_api_Shape = some (.struct ⟨[⟨"Pages", 3, 0, false, "", "", 0⟩, ⟨"Log", 3, 1, false, "", "", 8⟩, ⟨"Frames", 3, 2, false, "", "", 16⟩]⟩) := Tryz.underlying24
theorem u_S_api_Group : prog.underlying t_S_api_Group = some (.slice 81) := Tryz.underlying30
theorem u_S_api_Counter : prog.underlying t_S_api_Counter = some (.slice 79) := Tryz.underlying29
theorem u_api_Counter : prog.underlying t_z1a = some (.struct ⟨[⟨"ID", 3, 0, false, "", "", 0⟩, ⟨"Group", 3, 1, false, "", "", 8⟩, ⟨"Bounds", 77, 2, false, "", "", 16⟩, ⟨"Value", 2, 4, false, "", "", 32⟩]⟩) := Tryz.underlying79
theorem u_int64 : prog.underlying t_int64 = some (.int .i64) := Tryz.underlying2
theorem u_S_uint64 : prog.underlying t_S_uint64 = some (.slice 172) := Tryz.underlying33
theorem u_S_int : prog.underlying t_S_int = some (.slice 3) := Tryz.underlying42
theorem u_api_Loss : prog.underlying t_api_Loss = some (.struct ⟨[⟨"Keep", 33, 0, false, "", "", 0⟩, ⟨"Torn", 3, 1, false, "", "", 24⟩, ⟨"Offset", 3, 2, false, "", "", 32⟩]⟩) := Tryz.underlying35
theorem u_api_Group : prog.underlying t_zt = some (.struct ⟨[⟨"ID", 3, 0, false, "", "", 0⟩, ⟨"Sum", 2, 1, false, "", "", 8⟩]⟩) := Tryz.underlying81
theorem u_quotalaw09_Op : prog.underlying t_z3w = some (.struct ⟨[⟨"Kind", 3, 0, false, "", "", 0⟩, ⟨"N", 3, 1, false, "", "", 8⟩, ⟨"A", 3, 2, false, "", "", 16⟩, ⟨"X", 32, 3, false, "", "", 24⟩, ⟨"Raw", 4, 7, false, "", "", 88⟩, ⟨"L", 35, 8, false, "", "", 96⟩]⟩) := Tryz.underlying37
theorem u_api_Range : prog.underlying t_api_Range = some (.struct ⟨[⟨"Lo", 2, 0, false, "", "", 0⟩, ⟨"Hi", 2, 1, false, "", "", 8⟩]⟩) := Tryz.underlying77
theorem u_uint32 : prog.underlying t_uint32 = some (.int .u32) := Tryz.underlying175
theorem u_S_quotalaw09_Op : prog.underlying t_S_quotalaw09_Op = some (.slice 37) := Tryz.underlying25
theorem u_16_uint32 : prog.underlying t_16_uint32 = some (.array 16 175) := Tryz.underlying362
theorem u_interface_Asinterface_bool : prog.underlying t_z4e = some (.interface #[("As", 355)]) := Tryz.underlying353
theorem u_interface_Unwrap_error : prog.underlying t_interface_Unwrap_error = some (.interface #[("Unwrap", 357)]) := Tryz.underlying356
theorem tab_ok : Tab.ok tab prog := findT_ok rows (⟨row3, row54, row57, row126, row172, row46, row38, row49, row32, row4, row24, row30, row40, row29, row79, row5, row39, row2, row219, row121, row204, row33, row44, row42, row64, row153, row119, row155, row217, row199, row124, row101, row339, row157, row202, row122, row35, row81, row9, row436, row37, row20, row77, row83, row257, row395, row236, row41, row175, row330, row26, row327, row67, row317, row152, row234, row401, row267, row331, row260, row207, row25, row181, row1, row262, row334, row335, row336, row359, row362, row162, row353, row356, row358, row17, row254, row255, trivial⟩)
theorem mixed : prog.follows .mixedOrders = true := by kernel_rfl
theorem f_math_bits_Add64.fn : prog.funcs[f_math_bits_Add64]? = some Tryz.f349 := Tryz.func349
theorem f_math_bits_Sub64.fn : prog.funcs[f_math_bits_Sub64]? = some Tryz.f350 := Tryz.func350
theorem f_z2k.ok : Callable prog f_z2k := callable_of Tryz.func4 (by kernel_rfl) rfl
def lvs : List (List Nat) → Nat → Option (List Nat)
 | [], _ => none
 | x :: _, 0 => some x
 | _ :: l, n + 1 => lvs l n
def f_z2k.live : Nat → Option (List Nat) := lvs [[1,2],[1,5],[1,5,22],[4],[1,5,6],[1,5,6,30],[1,5,6],[1,5,6,7],[1,5,6,40],[4],[5,8],[5,8,47],[5,8],[5,8,57],[5,8,9],[5,8,71],[4],[5,8,10],[5,8,9,12],[5,8,9,13,14],[5,8,111],[4],[4]]
variable {W : World} {H : HProp} {R : Ending → HProp → Prop}
theorem f_z2k.does (a0 a1 : Value) (h : exec prog W tab 128 f_z2k.live (codeOf Tryz.f4) (bodyQ prog W tab [.tmp 4] R) (argFr 0 [a0, a1]) [] H) : Does prog W f_z2k ⟨[a0, a1]⟩ H R :=
 Does.of_exec tab_ok f_z2k.live Tryz.func4 rfl rfl rfl (by simp) h
theorem f_z3l.ok : Callable prog f_z3l := callable_of Tryz.func14 (by kernel_rfl) rfl
def f_z3l.live : Nat → Option (List Nat) := lvs [[],[1],[1,2,3],[1,2,26],[0],[1,2,4,5],[1,2,4,37],[0],[1,4,6,7],[4,6,7,9],[4,6,62],[0],[4,6,10,11],[4,5,6,10,11,12],[4,6,12,103],[0],[4,5,6,12],[4,5,6,12,14],[6,12,143],[0],[5,6,12],[0]]
theorem f_z3l.does (h : exec prog W tab 176 f_z3l.live (codeOf Tryz.f14) (bodyQ prog W tab [.tmp 0] R) (argFr 0 []) [] H) : Does prog W f_z3l ⟨[]⟩ H R :=
 Does.of_exec tab_ok f_z3l.live Tryz.func14 rfl rfl rfl (by simp) h
theorem f_z2y.ok : Callable prog f_z2y := callable_of Tryz.func15 (by kernel_rfl) rfl
def f_z2y.live : Nat → Option (List Nat) := lvs [[1],[3],[3,4,5],[3,5,6,7],[3,6,39],[2],[3,6,8,9],[3,6,9,10,11],[3,6,10,63],[2],[3,6,10,12,13],[3,6,10,12,77],[2],[3,14],[3,14,15],[3,14,15,87],[3,14,15],[3,14,15],[3,14,15],[2]]
theorem f_z2y.does (a0 : Value) (h : exec prog W tab 112 f_z2y.live (codeOf Tryz.f15) (bodyQ prog W tab [.tmp 2] R) (argFr 0 [a0]) [] H) : Does prog W f_z2y ⟨[a0]⟩ H R :=
 Does.of_exec tab_ok f_z2y.live Tryz.func15 rfl rfl rfl (by simp) h
theorem f_z0.ok : Callable prog f_z0 := callable_of Tryz.func16 (by kernel_rfl) rfl
def f_z0.live : Nat → Option (List Nat) := lvs [[0,3],[0,3,5],[0,3,5,19],[0,3,5,19,20],[0,3,5,19,20],[0,5,25],[0,5,6],[4],[0,5,7,8],[0,5,7,8,54],[4],[4],[0,3,5,19,69],[4],[0,3,5,19,74],[],[0,3,5,19,82],[0,3,5,19,82],[0,3,5],[0,5,87],[0,5,9],[0,5,9],[0,5,9,101],[0,9],[4],[0,3,19,131],[],[0,3,143],[],[4]]
theorem f_z0.does (a0 a1 : Value) (h : exec prog W tab 159 f_z0.live (codeOf Tryz.f16) (bodyQ prog W tab [.tmp 4] R) (argFr 0 [a0, a1]) [] H) : Does prog W f_z0 ⟨[a0, a1]⟩ H R :=
 Does.of_exec tab_ok f_z0.live Tryz.func16 rfl rfl rfl (by simp) h
def f_z0.plan1 : List Nat := [0, 1, 2, 3, 4, 5, 6, 7, 8]
def f_z0.last1 : List Nat := [7, 8]
def f_z0.plan23 : List Nat := [0, 1, 2, 3, 4, 5, 6, 7, 8, 9, 10]
def f_z0.last23 : List Nat := [9, 10]
def f_z0.plan26 : List Nat := [0, 1, 2, 3, 4, 5, 6, 7, 8, 9]
def f_z0.last26 : List Nat := [9]
def f_z0.plan28 : List Nat := [0, 1, 2, 3, 4, 5, 6, 7, 8, 9, 10, 11, 12, 13]
def f_z0.last28 : List Nat := [13]
theorem f_z8.ok : Callable prog f_z8 := callable_of Tryz.func17 (by kernel_rfl) rfl
def f_z8.live : Nat → Option (List Nat) := lvs [[0],[2]]
theorem f_z8.does (a0 : Value) (h : exec prog W tab 4 f_z8.live (codeOf Tryz.f17) (bodyQ prog W tab [.tmp 2] R) (argFr 0 [a0]) [] H) : Does prog W f_z8 ⟨[a0]⟩ H R :=
 Does.of_exec tab_ok f_z8.live Tryz.func17 rfl rfl rfl (by simp) h
theorem f_z2e.ok : Callable prog f_z2e := callable_of Tryz.func18 (by kernel_rfl) rfl
def f_z2e.live : Nat → Option (List Nat) := lvs [[0,1],[0,1,5],[0,1,5,11],[4],[6],[6,27],[4],[],[4]]
theorem f_z2e.does (a0 a1 : Value) (h : exec prog W tab 35 f_z2e.live (codeOf Tryz.f18) (bodyQ prog W tab [.tmp 4] R) (argFr 0 [a0, a1]) [] H) : Does prog W f_z2e ⟨[a0, a1]⟩ H R :=
 Does.of_exec tab_ok f_z2e.live Tryz.func18 rfl rfl rfl (by simp) h
theorem f_z2l.ok : Callable prog f_z2l := callable_of Tryz.func19 (by kernel_rfl) rfl
def f_z2l.live : Nat → Option (List Nat) := lvs [[0,1],[0,1,5,6],[1,6],[0,1,5,6,16],[0,1,19],[1,6],[4]]
theorem f_z2l.does (a0 a1 : Value) (h : exec prog W tab 28 f_z2l.live (codeOf Tryz.f19) (bodyQ prog W tab [.tmp 4] R) (argFr 0 [a0, a1]) [] H) : Does prog W f_z2l ⟨[a0, a1]⟩ H R :=
 Does.of_exec tab_ok f_z2l.live Tryz.func19 rfl rfl rfl (by simp) h
theorem f_zn.ok : Callable prog f_zn := callable_of Tryz.func20 (by kernel_rfl) rfl
def f_zn.live : Nat → Option (List Nat) := lvs [[0],[0,5],[2],[0,3],[3,8],[2],[2]]
theorem f_zn.does (a0 : Value) (h : exec prog W tab 10 f_zn.live (codeOf Tryz.f20) (bodyQ prog W tab [.tmp 2] R) (argFr 0 [a0]) [] H) : Does prog W f_zn ⟨[a0]⟩ H R :=
 Does.of_exec tab_ok f_zn.live Tryz.func20 rfl rfl rfl (by simp) h
theorem f_z1o.ok : Callable prog f_z1o := callable_of Tryz.func21 (by kernel_rfl) rfl
def f_z1o.live : Nat → Option (List Nat) := lvs [[1,2],[1,2,8],[4,5],[1,16],[4,5],[4,5]]
theorem f_z1o.does (a0 a1 : Value) (h : exec prog W tab 20 f_z1o.live (codeOf Tryz.f21) (bodyQ prog W tab [.tmp 4, .tmp 5] R) (argFr 0 [a0, a1]) [] H) : Does prog W f_z1o ⟨[a0, a1]⟩ H R :=
 Does.of_exec tab_ok f_z1o.live Tryz.func21 rfl rfl rfl (by simp) h
theorem f_z12.ok : Callable prog f_z12 := callable_of Tryz.func22 (by kernel_rfl) rfl
def f_z12.live : Nat → Option (List Nat) := lvs [[0,1,4,5],[0,1,4,5],[0,1,4,5],[0,1,4,5],[4,5]]
theorem f_z12.does (a0 a1 : Value) (h : exec prog W tab 21 f_z12.live (codeOf Tryz.f22) (bodyQ prog W tab [.tmp 4, .cell 5 49] R) (argFr 0 [a0, a1]) [] H) : Does prog W f_z12 ⟨[a0, a1]⟩ H R :=
 Does.of_exec tab_ok f_z12.live Tryz.func22 rfl rfl rfl (by simp) h
theorem f_z9.ok : Callable prog f_z9 := callable_of Tryz.func23 (by kernel_rfl) rfl
def f_z9.live : Nat → Option (List Nat) := lvs [[0,1,4],[0,1,4,17],[4,5],[0,1,4,22],[4,5],[0,1,4,27],[4,5],[0,1,4,32],[4,5],[0,1,4,38],[4,5],[0,1,4,6],[0,1,4,6,7],[0,1,4,6,7,9,10],[0,1,4,6,7,9,10,61],[0,1,4,6,7,9,10],[0,1,4,6,7,9,10,11],[0,1,4,6,9,10,11,66],[4,5],[0,1,4,6,9,10,11,73],[4,5],[0,1,4,6,10,11,81],[4,5],[0,4,6,10,11,12],[0,4,6,10,11,12,101,102],[0,4,6,10,11,12,101,102,103],[0,4,6,10,11,12,13,101,102],[0,4,6,10,11,12,13,101,102,108],[0,4,6,10,11,12,14,101,102],[0,4,6,10,11,12,101,102],[0,4,6,10,11,12,15,101,102],[0,4,6,10,11,12,101,102],[0,4,6,10,11,12,101,102],[0,4,6,10,11,12,16],[0,4,6,10,11,12,16,168],[4,5],[4,12,184],[4,5],[4,5]]
theorem f_z9.does (a0 a1 : Value) (h : exec prog W tab 187 f_z9.live (codeOf Tryz.f23) (bodyQ prog W tab [.cell 4 57, .tmp 5] R) (argFr 0 [a0, a1]) [] H) : Does prog W f_z9 ⟨[a0, a1]⟩ H R :=
 Does.of_exec tab_ok f_z9.live Tryz.func23 rfl rfl rfl (by simp) h
def f_z9.plan29 : List Nat := [0, 1, 2, 3, 4, 5, 6, 7, 8, 9, 10, 11, 12, 13, 14]
def f_z9.last29 : List Nat := [12, 13, 14]
def f_z9.plan31 : List Nat := [0, 1, 2, 3, 4, 5, 6, 7, 8, 9, 10, 11, 12, 13, 14, 15, 16, 17, 18, 19, 20, 21, 22, 23, 24, 25, 26, 27]
def f_z9.last31 : List Nat := [25, 26, 27]
theorem f_z2m.ok : Callable prog f_z2m := callable_of Tryz.func24 (by kernel_rfl) rfl
def f_z2m.live : Nat → Option (List Nat) := lvs [[2,3],[4]]
theorem f_z2m.does (a0 a1 : Value) (h : exec prog W tab 31 f_z2m.live (codeOf Tryz.f24) (bodyQ prog W tab [.tmp 4] R) (argFr 0 [a0, a1]) [] H) : Does prog W f_z2m ⟨[a0, a1]⟩ H R :=
 Does.of_exec tab_ok f_z2m.live Tryz.func24 rfl rfl rfl (by simp) h
theorem f_z2n.ok : Callable prog f_z2n := callable_of Tryz.func25 (by kernel_rfl) rfl
def f_z2n.live : Nat → Option (List Nat) := lvs [[1,2],[2]]
theorem f_z2n.does (a0 : Value) (h : exec prog W tab 12 f_z2n.live (codeOf Tryz.f25) (bodyQ prog W tab [.cell 2 32] R) (argFr 0 [a0]) [] H) : Does prog W f_z2n ⟨[a0]⟩ H R :=
 Does.of_exec tab_ok f_z2n.live Tryz.func25 rfl rfl rfl (by simp) h
theorem f_zu.ok : Callable prog f_zu := callable_of Tryz.func26 (by kernel_rfl) rfl
def f_zu.live : Nat → Option (List Nat) := lvs [[0,1,4],[4]]
theorem f_zu.does (a0 a1 : Value) (h : exec prog W tab 23 f_zu.live (codeOf Tryz.f26) (bodyQ prog W tab [.cell 4 32] R) (argFr 0 [a0, a1]) [] H) : Does prog W f_zu ⟨[a0, a1]⟩ H R :=
 Does.of_exec tab_ok f_zu.live Tryz.func26 rfl rfl rfl (by simp) h
def f_zu.plan1 : List Nat := [0, 1, 2, 3, 4, 5, 6, 7, 8, 9, 10, 11, 12, 13, 14, 15, 16, 17, 18]
def f_zu.last1 : List Nat := [16, 17, 18]
theorem f_z22.ok : Callable prog f_z22 := callable_of Tryz.func27 (by kernel_rfl) rfl
def f_z22.live : Nat → Option (List Nat) := lvs [[0],[2]]
theorem f_z22.does (a0 : Value) (h : exec prog W tab 9 f_z22.live (codeOf Tryz.f27) (bodyQ prog W tab [.tmp 2] R) (argFr 0 [a0]) [] H) : Does prog W f_z22 ⟨[a0]⟩ H R :=
 Does.of_exec tab_ok f_z22.live Tryz.func27 rfl rfl rfl (by simp) h
theorem f_z23.ok : Callable prog f_z23 := callable_of Tryz.func28 (by kernel_rfl) rfl
def f_z23.live : Nat → Option (List Nat) := lvs [[0],[0,3],[0,3,8,9,10],[0,3,8,9,10,11],[0,3,5,8,9,10],[0,3,5,6,8,9,10],[0,3,5,6,8,9,10,23],[0,3,8,9,10],[0,3,8,9,10],[2]]
theorem f_z23.does (a0 : Value) (h : exec prog W tab 35 f_z23.live (codeOf Tryz.f28) (bodyQ prog W tab [.tmp 2] R) (argFr 0 [a0]) [] H) : Does prog W f_z23 ⟨[a0]⟩ H R :=
 Does.of_exec tab_ok f_z23.live Tryz.func28 rfl rfl rfl (by simp) h
theorem f_zk.ok : Callable prog f_zk := callable_of Tryz.func29 (by kernel_rfl) rfl
def f_zk.live : Nat → Option (List Nat) := lvs [[0,1],[0,1],[0,1,9],[4],[4]]
theorem f_zk.does (a0 a1 : Value) (h : exec prog W tab 14 f_zk.live (codeOf Tryz.f29) (bodyQ prog W tab [.tmp 4] R) (argFr 0 [a0, a1]) [] H) : Does prog W f_zk ⟨[a0, a1]⟩ H R :=
 Does.of_exec tab_ok f_zk.live Tryz.func29 rfl rfl rfl (by simp) h
theorem f_z1p.ok : Callable prog f_z1p := callable_of Tryz.func30 (by kernel_rfl) rfl
def f_z1p.live : Nat → Option (List Nat) := lvs [[0,1,4],[1,4,6,7],[1,4,6,7,15],[4,5],[4,5]]
theorem f_z1p.does (a0 a1 : Value) (h : exec prog W tab 25 f_z1p.live (codeOf Tryz.f30) (bodyQ prog W tab [.cell 4 57, .tmp 5] R) (argFr 0 [a0, a1]) [] H) : Does prog W f_z1p ⟨[a0, a1]⟩ H R :=
 Does.of_exec tab_ok f_z1p.live Tryz.func30 rfl rfl rfl (by simp) h
theorem f_z2z.ok : Callable prog f_z2z := callable_of Tryz.func31 (by kernel_rfl) rfl
def f_z2z.live : Nat → Option (List Nat) := lvs [[1,2],[1,2],[1,2],[2]]
theorem f_z2z.does (a0 : Value) (h : exec prog W tab 12 f_z2z.live (codeOf Tryz.f31) (bodyQ prog W tab [.cell 2 32] R) (argFr 0 [a0]) [] H) : Does prog W f_z2z ⟨[a0]⟩ H R :=
 Does.of_exec tab_ok f_z2z.live Tryz.func31 rfl rfl rfl (by simp) h
theorem f_z2f.ok : Callable prog f_z2f := callable_of Tryz.func35 (by kernel_rfl) rfl
def f_z2f.live : Nat → Option (List Nat) := lvs [[0,1,5],[0,1,5,7],[6],[0,1,5,12],[6],[0,5],[],[6]]
theorem f_z2f.does (a0 a1 a2 : Value) (h : exec prog W tab 30 f_z2f.live (codeOf Tryz.f35) (bodyQ prog W tab [.tmp 6] R) (argFr 0 [a0, a1, a2]) [] H) : Does prog W f_z2f ⟨[a0, a1, a2]⟩ H R :=
 Does.of_exec tab_ok f_z2f.live Tryz.func35 rfl rfl rfl (by simp) h
def f_z2f.plan6 : List Nat := [0, 1, 2, 4, 5, 6, 7, 3, 8, 9, 10, 11]
def f_z2f.last6 : List Nat := [9, 10, 11]
theorem f_z24.ok : Callable prog f_z24 := callable_of Tryz.func36 (by kernel_rfl) rfl
def f_z24.live : Nat → Option (List Nat) := lvs [[0],[2]]
theorem f_z24.does (a0 : Value) (h : exec prog W tab 7 f_z24.live (codeOf Tryz.f36) (bodyQ prog W tab [.tmp 2] R) (argFr 0 [a0]) [] H) : Does prog W f_z24 ⟨[a0]⟩ H R :=
 Does.of_exec tab_ok f_z24.live Tryz.func36 rfl rfl rfl (by simp) h
theorem f_z3x.ok : Callable prog f_z3x := callable_of Tryz.func37 (by kernel_rfl) rfl
def f_z3x.live : Nat → Option (List Nat) := lvs [[0,3],[0,3,8],[4],[],[4]]
theorem f_z3x.does (a0 a1 : Value) (h : exec prog W tab 12 f_z3x.live (codeOf Tryz.f37) (bodyQ prog W tab [.tmp 4] R) (argFr 0 [a0, a1]) [] H) : Does prog W f_z3x ⟨[a0, a1]⟩ H R :=
 Does.of_exec tab_ok f_z3x.live Tryz.func37 rfl rfl rfl (by simp) h
theorem f_z44.ok : Callable prog f_z44 := callable_of Tryz.func38 (by kernel_rfl) rfl
def f_z44.live : Nat → Option (List Nat) := lvs [[0],[0],[],[2]]
theorem f_z44.does (a0 : Value) (h : exec prog W tab 9 f_z44.live (codeOf Tryz.f38) (bodyQ prog W tab [.tmp 2] R) (argFr 0 [a0]) [] H) : Does prog W f_z44 ⟨[a0]⟩ H R :=
 Does.of_exec tab_ok f_z44.live Tryz.func38 rfl rfl rfl (by simp) h
theorem f_z45.ok : Callable prog f_z45 := callable_of Tryz.func39 (by kernel_rfl) rfl
def f_z45.live : Nat → Option (List Nat) := lvs [[0,1,4,5],[0,1,4,5],[0,1,4,5],[0,1,4,5],[0,1,4,5,6],[0,1,4,5,6,23],[4,5],[0,1,4,5,6,7],[0,1,4,5,6,7,24],[0,1,4,5,6,7,24,25],[0,1,4,5,6,7,8,24],[0,1,4,5,6,7,24],[0,1,4,5,6,7,24],[0,1,4,5,6,7,9],[0,1,4,5,6,7],[0,1,4,5,6],[0,1,4,5,6],[4,5],[4,5]]
theorem f_z45.does (a0 a1 : Value) (h : exec prog W tab 74 f_z45.live (codeOf Tryz.f39) (bodyQ prog W tab [.tmp 4, .cell 5 49] R) (argFr 0 [a0, a1]) [] H) : Does prog W f_z45 ⟨[a0, a1]⟩ H R :=
 Does.of_exec tab_ok f_z45.live Tryz.func39 rfl rfl rfl (by simp) h
theorem f_zv.ok : Callable prog f_zv := callable_of Tryz.func40 (by kernel_rfl) rfl
def f_zv.live : Nat → Option (List Nat) := lvs [[0,1],[4]]
theorem f_zv.does (a0 a1 : Value) (h : exec prog W tab 20 f_zv.live (codeOf Tryz.f40) (bodyQ prog W tab [.tmp 4] R) (argFr 0 [a0, a1]) [] H) : Does prog W f_zv ⟨[a0, a1]⟩ H R :=
 Does.of_exec tab_ok f_zv.live Tryz.func40 rfl rfl rfl (by simp) h
theorem f_z46.ok : Callable prog f_z46 := callable_of Tryz.func42 (by kernel_rfl) rfl
def f_z46.live : Nat → Option (List Nat) := lvs [[0],[2]]
theorem f_z46.does (a0 : Value) (h : exec prog W tab 9 f_z46.live (codeOf Tryz.f42) (bodyQ prog W tab [.tmp 2] R) (argFr 0 [a0]) [] H) : Does prog W f_z46 ⟨[a0]⟩ H R :=
 Does.of_exec tab_ok f_z46.live Tryz.func42 rfl rfl rfl (by simp) h
theorem f_zo.ok : Callable prog f_zo := callable_of Tryz.func47 (by kernel_rfl) rfl
def f_zo.live : Nat → Option (List Nat) := lvs [[0],[2]]
theorem f_zo.does (a0 : Value) (h : exec prog W tab 8 f_zo.live (codeOf Tryz.f47) (bodyQ prog W tab [.tmp 2] R) (argFr 0 [a0]) [] H) : Does prog W f_zo ⟨[a0]⟩ H R :=
 Does.of_exec tab_ok f_zo.live Tryz.func47 rfl rfl rfl (by simp) h
theorem f_z30.ok : Callable prog f_z30 := callable_of Tryz.func60 (by kernel_rfl) rfl
def f_z30.live : Nat → Option (List Nat) := lvs [[0],[0,9],[2,3],[2,3]]
theorem f_z30.does (a0 : Value) (h : exec prog W tab 15 f_z30.live (codeOf Tryz.f60) (bodyQ prog W tab [.tmp 2, .tmp 3] R) (argFr 0 [a0]) [] H) : Does prog W f_z30 ⟨[a0]⟩ H R :=
 Does.of_exec tab_ok f_z30.live Tryz.func60 rfl rfl rfl (by simp) h
theorem f_log_Open.ok : Callable prog f_log_Open := callable_of Tryz.func61 (by kernel_rfl) rfl
def f_log_Open.live : Nat → Option (List Nat) := lvs [[3,4,5],[3,4,5,8],[8,9],[8,9,18],[6,7],[6,7]]
theorem f_log_Open.does (a0 a1 a2 : Value) (h : exec prog W tab 21 f_log_Open.live (codeOf Tryz.f61) (bodyQ prog W tab [.tmp 6, .tmp 7] R) (argFr 0 [a0, a1, a2]) [] H) : Does prog W f_log_Open ⟨[a0, a1, a2]⟩ H R :=
 Does.of_exec tab_ok f_log_Open.live Tryz.func61 rfl rfl rfl (by simp) h
theorem f_z25.ok : Callable prog f_z25 := callable_of Tryz.func62 (by kernel_rfl) rfl
def f_z25.live : Nat → Option (List Nat) := lvs [[0,1,5],[0,1,5,15],[6,7],[0,1,5,8,9],[0,1,5,28],[6,7],[6,7]]
theorem f_z25.does (a0 a1 a2 : Value) (h : exec prog W tab 35 f_z25.live (codeOf Tryz.f62) (bodyQ prog W tab [.tmp 6, .tmp 7] R) (argFr 0 [a0, a1, a2]) [] H) : Does prog W f_z25 ⟨[a0, a1, a2]⟩ H R :=
 Does.of_exec tab_ok f_z25.live Tryz.func62 rfl rfl rfl (by simp) h
theorem f_zl.ok : Callable prog f_zl := callable_of Tryz.func63 (by kernel_rfl) rfl
def f_zl.live : Nat → Option (List Nat) := lvs [[0,3],[0,3,13],[4,5],[0,3],[0,3,6],[0,3,6,24],[4,5],[0,3,28],[4,5],[0,3,7,8],[0,3,7,8,35],[4,5],[0,3,7],[3],[4,5]]
theorem f_zl.does (a0 a1 : Value) (h : exec prog W tab 60 f_zl.live (codeOf Tryz.f63) (bodyQ prog W tab [.tmp 4, .tmp 5] R) (argFr 0 [a0, a1]) [] H) : Does prog W f_zl ⟨[a0, a1]⟩ H R :=
 Does.of_exec tab_ok f_zl.live Tryz.func63 rfl rfl rfl (by simp) h
def f_zl.plan12 : List Nat := [0, 1, 2, 3, 4, 5, 6, 7, 8, 9, 10, 11]
def f_zl.last12 : List Nat := [9, 10, 11]
theorem f_z1f.ok : Callable prog f_z1f := callable_of Tryz.func64 (by kernel_rfl) rfl
def f_z1f.live : Nat → Option (List Nat) := lvs [[0,3],[4]]
theorem f_z1f.does (a0 a1 : Value) (h : exec prog W tab 11 f_z1f.live (codeOf Tryz.f64) (bodyQ prog W tab [.tmp 4] R) (argFr 0 [a0, a1]) [] H) : Does prog W f_z1f ⟨[a0, a1]⟩ H R :=
 Does.of_exec tab_ok f_z1f.live Tryz.func64 rfl rfl rfl (by simp) h
def f_z1f.plan1 : List Nat := [0, 1, 2, 3, 4, 5, 6]
def f_z1f.last1 : List Nat := [5, 6]
theorem f_z31.ok : Callable prog f_z31 := callable_of Tryz.func65 (by kernel_rfl) rfl
def f_z31.live : Nat → Option (List Nat) := lvs [[0],[2]]
theorem f_z31.does (a0 : Value) (h : exec prog W tab 7 f_z31.live (codeOf Tryz.f65) (bodyQ prog W tab [.tmp 2] R) (argFr 0 [a0]) [] H) : Does prog W f_z31 ⟨[a0]⟩ H R :=
 Does.of_exec tab_ok f_z31.live Tryz.func65 rfl rfl rfl (by simp) h
theorem f_z26.ok : Callable prog f_z26 := callable_of Tryz.func66 (by kernel_rfl) rfl
def f_z26.live : Nat → Option (List Nat) := lvs [[1,2],[2]]
theorem f_z26.does (a0 : Value) (h : exec prog W tab 16 f_z26.live (codeOf Tryz.f66) (bodyQ prog W tab [.cell 2 24] R) (argFr 0 [a0]) [] H) : Does prog W f_z26 ⟨[a0]⟩ H R :=
 Does.of_exec tab_ok f_z26.live Tryz.func66 rfl rfl rfl (by simp) h
def f_z26.plan1 : List Nat := [0, 1, 4, 5, 8, 9, 2, 3, 6, 7, 10, 11, 12, 13]
def f_z26.last1 : List Nat := [12, 13]
theorem f_z32.ok : Callable prog f_z32 := callable_of Tryz.func67 (by kernel_rfl) rfl
def f_z32.live : Nat → Option (List Nat) := lvs [[1],[1,6],[2,3],[2,3]]
theorem f_z32.does (a0 : Value) (h : exec prog W tab 14 f_z32.live (codeOf Tryz.f67) (bodyQ prog W tab [.tmp 2, .tmp 3] R) (argFr 0 [a0]) [] H) : Does prog W f_z32 ⟨[a0]⟩ H R :=
 Does.of_exec tab_ok f_z32.live Tryz.func67 rfl rfl rfl (by simp) h
theorem f_z3m.ok : Callable prog f_z3m := callable_of Tryz.func68 (by kernel_rfl) rfl
def f_z3m.live : Nat → Option (List Nat) := lvs [[1],[1,6],[2,3],[2,3]]
theorem f_z3m.does (a0 : Value) (h : exec prog W tab 11 f_z3m.live (codeOf Tryz.f68) (bodyQ prog W tab [.tmp 2, .tmp 3] R) (argFr 0 [a0]) [] H) : Does prog W f_z3m ⟨[a0]⟩ H R :=
 Does.of_exec tab_ok f_z3m.live Tryz.func68 rfl rfl rfl (by simp) h
theorem f_z33.ok : Callable prog f_z33 := callable_of Tryz.func69 (by kernel_rfl) rfl
def f_z33.live : Nat → Option (List Nat) := lvs [[0,1],[1,5,6],[1,5,6,14],[1,6],[4]]
theorem f_z33.does (a0 a1 : Value) (h : exec prog W tab 25 f_z33.live (codeOf Tryz.f69) (bodyQ prog W tab [.tmp 4] R) (argFr 0 [a0, a1]) [] H) : Does prog W f_z33 ⟨[a0, a1]⟩ H R :=
 Does.of_exec tab_ok f_z33.live Tryz.func69 rfl rfl rfl (by simp) h
theorem f_z1b.ok : Callable prog f_z1b := callable_of Tryz.func70 (by kernel_rfl) rfl
def f_z1b.live : Nat → Option (List Nat) := lvs [[0,1,2,3],[0,1,2,3,12],[8],[1,2,3,15],[1,2,3,17,18],[1,2,3,9],[3,9,36],[8],[3,40],[3,42,43],[3,10],[8],[8]]
theorem f_z1b.does (a0 a1 a2 a3 : Value) (h : exec prog W tab 48 f_z1b.live (codeOf Tryz.f70) (bodyQ prog W tab [.tmp 8] R) (argFr 0 [a0, a1, a2, a3]) [] H) : Does prog W f_z1b ⟨[a0, a1, a2, a3]⟩ H R :=
 Does.of_exec tab_ok f_z1b.live Tryz.func70 rfl rfl rfl (by simp) h
theorem f_z1.ok : Callable prog f_z1 := callable_of Tryz.func71 (by kernel_rfl) rfl
def f_z1.live : Nat → Option (List Nat) := lvs [[0,3],[0,3,5],[0,3,5,7],[0,3,5,7,27],[4],[0,3,5,8],[0,3,5,8],[0,3,5,8],[0,3,5,8,58],[0,5,8],[0,5,7,8],[0,5,7,8,79],[4],[0,5,8,89],[4],[],[4]]
theorem f_z1.does (a0 a1 : Value) (h : exec prog W tab 106 f_z1.live (codeOf Tryz.f71) (bodyQ prog W tab [.tmp 4] R) (argFr 0 [a0, a1]) [] H) : Does prog W f_z1 ⟨[a0, a1]⟩ H R :=
 Does.of_exec tab_ok f_z1.live Tryz.func71 rfl rfl rfl (by simp) h
def f_z1.plan1 : List Nat := [0, 1, 2, 3, 4, 5, 6, 7, 8]
def f_z1.last1 : List Nat := [7, 8]
def f_z1.plan7 : List Nat := [0, 1, 5, 6, 2, 3, 4, 7, 8, 9, 10]
def f_z1.last7 : List Nat := [8, 9, 10]
def f_z1.plan10 : List Nat := [0, 1, 2, 3, 4, 5, 6, 7, 8]
def f_z1.last10 : List Nat := [7, 8]
def f_z1.plan11 : List Nat := [0, 1, 2, 3, 4, 5, 6, 7]
def f_z1.last11 : List Nat := [7]
def f_z1.plan15 : List Nat := [0, 1, 2, 3, 4, 5, 6, 7, 8, 9, 10, 11, 12, 13, 14, 15, 16]
def f_z1.last15 : List Nat := [15, 16]
theorem f_z34.ok : Callable prog f_z34 := callable_of Tryz.func72 (by kernel_rfl) rfl
def f_z34.live : Nat → Option (List Nat) := lvs [[0,1],[0,1,6],[0,1,6,14],[1,6],[4]]
theorem f_z34.does (a0 a1 : Value) (h : exec prog W tab 21 f_z34.live (codeOf Tryz.f72) (bodyQ prog W tab [.tmp 4] R) (argFr 0 [a0, a1]) [] H) : Does prog W f_z34 ⟨[a0, a1]⟩ H R :=
 Does.of_exec tab_ok f_z34.live Tryz.func72 rfl rfl rfl (by simp) h
theorem f_z3.ok : Callable prog f_z3 := callable_of Tryz.func73 (by kernel_rfl) rfl
def f_z3.live : Nat → Option (List Nat) := lvs [[2,3],[2,3,10],[4],[2,3,25],[4],[2,3,35],[4],[2,3,5],[2,3,5,39],[5],[4],[2,3],[],[4]]
theorem f_z3.does (a0 a1 : Value) (h : exec prog W tab 63 f_z3.live (codeOf Tryz.f73) (bodyQ prog W tab [.tmp 4] R) (argFr 0 [a0, a1]) [] H) : Does prog W f_z3 ⟨[a0, a1]⟩ H R :=
 Does.of_exec tab_ok f_z3.live Tryz.func73 rfl rfl rfl (by simp) h
def f_z3.plan3 : List Nat := [0, 1, 2, 3, 4, 5, 6, 7, 8, 9, 10]
def f_z3.last3 : List Nat := [9, 10]
def f_z3.plan5 : List Nat := [0, 1, 2, 3, 4, 5]
def f_z3.last5 : List Nat := [5]
def f_z3.plan11 : List Nat := [0, 1, 2, 3, 4, 5, 6, 7, 8, 9, 10, 11, 12, 13, 14]
def f_z3.last11 : List Nat := [12, 13, 14]
theorem f_zc.ok : Callable prog f_zc := callable_of Tryz.func74 (by kernel_rfl) rfl
def f_zc.live : Nat → Option (List Nat) := lvs [[0,1],[0,1,8],[4],[19],[4],[4]]
theorem f_zc.does (a0 a1 : Value) (h : exec prog W tab 20 f_zc.live (codeOf Tryz.f74) (bodyQ prog W tab [.tmp 4] R) (argFr 0 [a0, a1]) [] H) : Does prog W f_zc ⟨[a0, a1]⟩ H R :=
 Does.of_exec tab_ok f_zc.live Tryz.func74 rfl rfl rfl (by simp) h
theorem f_z35.ok : Callable prog f_z35 := callable_of Tryz.func75 (by kernel_rfl) rfl
def f_z35.live : Nat → Option (List Nat) := lvs [[0,1],[0,1,6],[0,1,6,12],[4,5],[7],[7,21],[4,5],[4,5]]
theorem f_z35.does (a0 a1 : Value) (h : exec prog W tab 23 f_z35.live (codeOf Tryz.f75) (bodyQ prog W tab [.tmp 4, .tmp 5] R) (argFr 0 [a0, a1]) [] H) : Does prog W f_z35 ⟨[a0, a1]⟩ H R :=
 Does.of_exec tab_ok f_z35.live Tryz.func75 rfl rfl rfl (by simp) h
theorem f_z36.ok : Callable prog f_z36 := callable_of Tryz.func76 (by kernel_rfl) rfl
def f_z36.live : Nat → Option (List Nat) := lvs [[0,1],[0,1,5],[0,1,5,10],[4],[],[4]]
theorem f_z36.does (a0 a1 : Value) (h : exec prog W tab 17 f_z36.live (codeOf Tryz.f76) (bodyQ prog W tab [.tmp 4] R) (argFr 0 [a0, a1]) [] H) : Does prog W f_z36 ⟨[a0, a1]⟩ H R :=
 Does.of_exec tab_ok f_z36.live Tryz.func76 rfl rfl rfl (by simp) h
theorem f_z1c.ok : Callable prog f_z1c := callable_of Tryz.func77 (by kernel_rfl) rfl
def f_z1c.live : Nat → Option (List Nat) := lvs [[0,1,2],[0,1,2,8],[6],[6]]
theorem f_z1c.does (a0 a1 a2 : Value) (h : exec prog W tab 16 f_z1c.live (codeOf Tryz.f77) (bodyQ prog W tab [.tmp 6] R) (argFr 0 [a0, a1, a2]) [] H) : Does prog W f_z1c ⟨[a0, a1, a2]⟩ H R :=
 Does.of_exec tab_ok f_z1c.live Tryz.func77 rfl rfl rfl (by simp) h
theorem f_z3n.ok : Callable prog f_z3n := callable_of Tryz.func78 (by kernel_rfl) rfl
def f_z3n.live : Nat → Option (List Nat) := lvs [[0,1],[0,1,9],[4],[0,1,11],[0,1],[0,1,5],[0,1,5,6],[0,1,5,6,23],[0,1,5,6],[0,1,5,7],[0,1,5,7,35],[0,1,5,7],[4]]
theorem f_z3n.does (a0 a1 : Value) (h : exec prog W tab 42 f_z3n.live (codeOf Tryz.f78) (bodyQ prog W tab [.tmp 4] R) (argFr 0 [a0, a1]) [] H) : Does prog W f_z3n ⟨[a0, a1]⟩ H R :=
 Does.of_exec tab_ok f_z3n.live Tryz.func78 rfl rfl rfl (by simp) h
theorem f_z2o.ok : Callable prog f_z2o := callable_of Tryz.func79 (by kernel_rfl) rfl
def f_z2o.live : Nat → Option (List Nat) := lvs [[1],[2]]
theorem f_z2o.does (a0 : Value) (h : exec prog W tab 31 f_z2o.live (codeOf Tryz.f79) (bodyQ prog W tab [.tmp 2] R) (argFr 0 [a0]) [] H) : Does prog W f_z2o ⟨[a0]⟩ H R :=
 Does.of_exec tab_ok f_z2o.live Tryz.func79 rfl rfl rfl (by simp) h
noncomputable abbrev f_zw.def : Func := Tryz.f80
theorem f_zw.fn : prog.funcs[f_zw]? = some f_zw.def := Tryz.func80
theorem f_zw.ok : Callable prog f_zw := callable_of Tryz.func80 (by kernel_rfl) rfl
def f_zw.live : Nat → Option (List Nat) := lvs [[]]
theorem f_zw.does (a0 : Value) (h : exec prog W tab 3 f_zw.live (codeOf Tryz.f80) (bodyQ prog W tab [] R) (argFr 0 [a0]) [] H) : Does prog W f_zw ⟨[a0]⟩ H R :=
 Does.of_exec tab_ok f_zw.live Tryz.func80 rfl rfl rfl (by simp) h
theorem f_z1u.ok : Callable prog f_z1u := callable_of Tryz.func81 (by kernel_rfl) rfl
def f_z1u.live : Nat → Option (List Nat) := lvs [[0,1,4],[0,1,4,7],[0,1,4,7,8],[],[4],[0,1,4,10,11],[0,6],[4],[4]]
theorem f_z1u.does (a0 a1 : Value) (h : exec prog W tab 20 f_z1u.live (codeOf Tryz.f81) (bodyQ prog W tab [.tmp 4] R) (argFr 0 [a0, a1]) [] H) : Does prog W f_z1u ⟨[a0, a1]⟩ H R :=
 Does.of_exec tab_ok f_z1u.live Tryz.func81 rfl rfl rfl (by simp) h
theorem f_z13.ok : Callable prog f_z13 := callable_of Tryz.func82 (by kernel_rfl) rfl
def f_z13.live : Nat → Option (List Nat) := lvs [[0],[]]
theorem f_z13.does (a0 : Value) (h : exec prog W tab 9 f_z13.live (codeOf Tryz.f82) (bodyQ prog W tab [] R) (argFr 0 [a0]) [] H) : Does prog W f_z13 ⟨[a0]⟩ H R :=
 Does.of_exec tab_ok f_z13.live Tryz.func82 rfl rfl rfl (by simp) h
theorem f_zf.ok : Callable prog f_zf := callable_of Tryz.func83 (by kernel_rfl) rfl
def f_zf.live : Nat → Option (List Nat) := lvs [[1,5],[]]
theorem f_zf.does (a0 a1 : Value) (h : exec prog W tab 9 f_zf.live (codeOf Tryz.f83) (bodyQ prog W tab [] R) (argFr 0 [a0, a1]) [] H) : Does prog W f_zf ⟨[a0, a1]⟩ H R :=
 Does.of_exec tab_ok f_zf.live Tryz.func83 rfl rfl rfl (by simp) h
theorem f_z1g.ok : Callable prog f_z1g := callable_of Tryz.func84 (by kernel_rfl) rfl
def f_z1g.live : Nat → Option (List Nat) := lvs [[0,1,2],[6]]
theorem f_z1g.does (a0 a1 a2 : Value) (h : exec prog W tab 23 f_z1g.live (codeOf Tryz.f84) (bodyQ prog W tab [.tmp 6] R) (argFr 0 [a0, a1, a2]) [] H) : Does prog W f_z1g ⟨[a0, a1, a2]⟩ H R :=
 Does.of_exec tab_ok f_z1g.live Tryz.func84 rfl rfl rfl (by simp) h
theorem f_twin_get.ok : Callable prog f_twin_get := callable_of Tryz.func85 (by kernel_rfl) rfl
def f_twin_get.live : Nat → Option (List Nat) := lvs [[0,1],[5,6],[5],[4]]
theorem f_twin_get.does (a0 a1 : Value) (h : exec prog W tab 16 f_twin_get.live (codeOf Tryz.f85) (bodyQ prog W tab [.tmp 4] R) (argFr 0 [a0, a1]) [] H) : Does prog W f_twin_get ⟨[a0, a1]⟩ H R :=
 Does.of_exec tab_ok f_twin_get.live Tryz.func85 rfl rfl rfl (by simp) h
theorem f_page_in.ok : Callable prog f_page_in := callable_of Tryz.func86 (by kernel_rfl) rfl
def f_page_in.live : Nat → Option (List Nat) := lvs [[0,1,2],[6]]
theorem f_page_in.does (a0 a1 a2 : Value) (h : exec prog W tab 15 f_page_in.live (codeOf Tryz.f86) (bodyQ prog W tab [.tmp 6] R) (argFr 0 [a0, a1, a2]) [] H) : Does prog W f_page_in ⟨[a0, a1, a2]⟩ H R :=
 Does.of_exec tab_ok f_page_in.live Tryz.func86 rfl rfl rfl (by simp) h
theorem f_zd.ok : Callable prog f_zd := callable_of Tryz.func87 (by kernel_rfl) rfl
def f_zd.live : Nat → Option (List Nat) := lvs [[0],[2]]
theorem f_zd.does (a0 : Value) (h : exec prog W tab 6 f_zd.live (codeOf Tryz.f87) (bodyQ prog W tab [.tmp 2] R) (argFr 0 [a0]) [] H) : Does prog W f_zd ⟨[a0]⟩ H R :=
 Does.of_exec tab_ok f_zd.live Tryz.func87 rfl rfl rfl (by simp) h
theorem f_zx.ok : Callable prog f_zx := callable_of Tryz.func88 (by kernel_rfl) rfl
def f_zx.live : Nat → Option (List Nat) := lvs [[0,1,2],[0,1,2,7],[0,1,7,12,13,14],[0,1,7,12,13,14,15],[0,1,7,9,12,13,14],[0,1,7,9,10,12,13,14],[0,1,7,9,12,13,14],[0,1,7,12,13,14],[0,1,7,12,13,14],[6]]
theorem f_zx.does (a0 a1 a2 : Value) (h : exec prog W tab 34 f_zx.live (codeOf Tryz.f88) (bodyQ prog W tab [.tmp 6] R) (argFr 0 [a0, a1, a2]) [] H) : Does prog W f_zx ⟨[a0, a1, a2]⟩ H R :=
 Does.of_exec tab_ok f_zx.live Tryz.func88 rfl rfl rfl (by simp) h
theorem f_zy.ok : Callable prog f_zy := callable_of Tryz.func89 (by kernel_rfl) rfl
def f_zy.live : Nat → Option (List Nat) := lvs [[0,1,2],[0,1,2,15],[6,7],[0,1,2,8],[0,1,8,16,17],[0,1,8,16,17,18],[0,1,8,9,16,17],[0,1,8,16,17],[0,1,8,16,17],[6,7]]
theorem f_zy.does (a0 a1 a2 : Value) (h : exec prog W tab 34 f_zy.live (codeOf Tryz.f89) (bodyQ prog W tab [.tmp 6, .tmp 7] R) (argFr 0 [a0, a1, a2]) [] H) : Does prog W f_zy ⟨[a0, a1, a2]⟩ H R :=
 Does.of_exec tab_ok f_zy.live Tryz.func89 rfl rfl rfl (by simp) h
theorem f_zg.ok : Callable prog f_zg := callable_of Tryz.func90 (by kernel_rfl) rfl
def f_zg.live : Nat → Option (List Nat) := lvs [[0],[2]]
theorem f_zg.does (a0 : Value) (h : exec prog W tab 10 f_zg.live (codeOf Tryz.f90) (bodyQ prog W tab [.tmp 2] R) (argFr 0 [a0]) [] H) : Does prog W f_zg ⟨[a0]⟩ H R :=
 Does.of_exec tab_ok f_zg.live Tryz.func90 rfl rfl rfl (by simp) h
def f_zg.plan1 : List Nat := [0, 1, 3, 4, 2, 5, 6, 7]
def f_zg.last1 : List Nat := [5, 6, 7]
theorem f_zp.ok : Callable prog f_zp := callable_of Tryz.func91 (by kernel_rfl) rfl
def f_zp.live : Nat → Option (List Nat) := lvs [[1],[1,8,9,10],[1,8,9,10,11],[1,4,8,9,10],[1,4,8,9,10,23],[2],[1,8,9,10,30],[2],[1,8,9,10],[33,34,35],[33,34,35,36],[6,33,34,35],[33,34,35,42],[2],[33,34,35],[2]]
theorem f_zp.does (a0 : Value) (h : exec prog W tab 44 f_zp.live (codeOf Tryz.f91) (bodyQ prog W tab [.tmp 2] R) (argFr 0 [a0]) [] H) : Does prog W f_zp ⟨[a0]⟩ H R :=
 Does.of_exec tab_ok f_zp.live Tryz.func91 rfl rfl rfl (by simp) h
theorem f_z1d.ok : Callable prog f_z1d := callable_of Tryz.func92 (by kernel_rfl) rfl
def f_z1d.live : Nat → Option (List Nat) := lvs [[0,1],[0,1,10],[4],[0,1,5],[0,1,5,14],[0,1,5],[0,1,5,25],[4],[4]]
theorem f_z1d.does (a0 a1 : Value) (h : exec prog W tab 26 f_z1d.live (codeOf Tryz.f92) (bodyQ prog W tab [.tmp 4] R) (argFr 0 [a0, a1]) [] H) : Does prog W f_z1d ⟨[a0, a1]⟩ H R :=
 Does.of_exec tab_ok f_z1d.live Tryz.func92 rfl rfl rfl (by simp) h
def f_z1d.plan6 : List Nat := [0, 1, 2, 3, 4, 5, 6, 7, 8]
def f_z1d.last6 : List Nat := [8]
theorem f_z1h.ok : Callable prog f_z1h := callable_of Tryz.func93 (by kernel_rfl) rfl
def f_z1h.live : Nat → Option (List Nat) := lvs [[0,1],[0,1,10],[4],[0,1,5],[0,1,5,14],[0,1,5],[0,1,5,25],[4],[4]]
theorem f_z1h.does (a0 a1 : Value) (h : exec prog W tab 26 f_z1h.live (codeOf Tryz.f93) (bodyQ prog W tab [.tmp 4] R) (argFr 0 [a0, a1]) [] H) : Does prog W f_z1h ⟨[a0, a1]⟩ H R :=
 Does.of_exec tab_ok f_z1h.live Tryz.func93 rfl rfl rfl (by simp) h
def f_z1h.plan6 : List Nat := [0, 1, 2, 3, 4, 5, 6, 7, 8]
def f_z1h.last6 : List Nat := [8]
theorem f_z42.ok : Callable prog f_z42 := callable_of Tryz.func94 (by kernel_rfl) rfl
def f_z42.live : Nat → Option (List Nat) := lvs [[0],[3],[3],[2]]
theorem f_z42.does (a0 : Value) (h : exec prog W tab 9 f_z42.live (codeOf Tryz.f94) (bodyQ prog W tab [.tmp 2] R) (argFr 0 [a0]) [] H) : Does prog W f_z42 ⟨[a0]⟩ H R :=
 Does.of_exec tab_ok f_z42.live Tryz.func94 rfl rfl rfl (by simp) h
theorem f_z3o.ok : Callable prog f_z3o := callable_of Tryz.func95 (by kernel_rfl) rfl
def f_z3o.live : Nat → Option (List Nat) := lvs [[1],[2]]
theorem f_z3o.does (a0 : Value) (h : exec prog W tab 4 f_z3o.live (codeOf Tryz.f95) (bodyQ prog W tab [.tmp 2] R) (argFr 0 [a0]) [] H) : Does prog W f_z3o ⟨[a0]⟩ H R :=
 Does.of_exec tab_ok f_z3o.live Tryz.func95 rfl rfl rfl (by simp) h
theorem f_z14.ok : Callable prog f_z14 := callable_of Tryz.func96 (by kernel_rfl) rfl
def f_z14.live : Nat → Option (List Nat) := lvs [[0,1],[0,1,6],[0,1,6,22],[4,5],[0,1,7],[0,1,7,31],[7],[4,5],[0,1,46],[0,1,8,9],[0,1,8,53],[4,5],[0,1,10],[0,1,10,58],[4,5],[0,1,11,12],[0,1,11,12,70],[4,5],[0,1,13,14],[0,1,13,15],[0,1,13,15,85],[4,5],[0,1,12,16],[0,1,12,16,94],[4,5],[0,1,17],[0,17],[17],[4,5]]
theorem f_z14.does (a0 a1 : Value) (h : exec prog W tab 109 f_z14.live (codeOf Tryz.f96) (bodyQ prog W tab [.tmp 4, .tmp 5] R) (argFr 0 [a0, a1]) [] H) : Does prog W f_z14 ⟨[a0, a1]⟩ H R :=
 Does.of_exec tab_ok f_z14.live Tryz.func96 rfl rfl rfl (by simp) h
def f_z14.plan8 : List Nat := [0, 1, 2, 3, 4, 5, 6, 7, 8, 9, 10]
def f_z14.last8 : List Nat := [10]
theorem f_z1v.ok : Callable prog f_z1v := callable_of Tryz.func97 (by kernel_rfl) rfl
def f_z1v.live : Nat → Option (List Nat) := lvs [[1,2],[1,2,3],[2,3],[2]]
theorem f_z1v.does (a0 : Value) (h : exec prog W tab 14 f_z1v.live (codeOf Tryz.f97) (bodyQ prog W tab [.cell 2 57] R) (argFr 0 [a0]) [] H) : Does prog W f_z1v ⟨[a0]⟩ H R :=
 Does.of_exec tab_ok f_z1v.live Tryz.func97 rfl rfl rfl (by simp) h
def f_z1v.plan2 : List Nat := [0, 1, 3, 4, 2, 6, 5, 7, 8, 9]
def f_z1v.last2 : List Nat := [7, 8, 9]
theorem f_z37.ok : Callable prog f_z37 := callable_of Tryz.func104 (by kernel_rfl) rfl
def f_z37.live : Nat → Option (List Nat) := lvs [[1,2],[2]]
theorem f_z37.does (a0 : Value) (h : exec prog W tab 12 f_z37.live (codeOf Tryz.f104) (bodyQ prog W tab [.cell 2 57] R) (argFr 0 [a0]) [] H) : Does prog W f_z37 ⟨[a0]⟩ H R :=
 Does.of_exec tab_ok f_z37.live Tryz.func104 rfl rfl rfl (by simp) h
theorem f_z47.ok : Callable prog f_z47 := callable_of Tryz.func116 (by kernel_rfl) rfl
def f_z47.live : Nat → Option (List Nat) := lvs [[0],[2]]
theorem f_z47.does (a0 : Value) (h : exec prog W tab 7 f_z47.live (codeOf Tryz.f116) (bodyQ prog W tab [.tmp 2] R) (argFr 0 [a0]) [] H) : Does prog W f_z47 ⟨[a0]⟩ H R :=
 Does.of_exec tab_ok f_z47.live Tryz.func116 rfl rfl rfl (by simp) h
theorem f_z1w.ok : Callable prog f_z1w := callable_of Tryz.func121 (by kernel_rfl) rfl
def f_z1w.live : Nat → Option (List Nat) := lvs [[0],[0,3],[3,9,10,11],[3,9,10,11,12],[3,5,9,10,11],[3,9,10,11],[3,9,10,11],[2]]
theorem f_z1w.does (a0 : Value) (h : exec prog W tab 26 f_z1w.live (codeOf Tryz.f121) (bodyQ prog W tab [.tmp 2] R) (argFr 0 [a0]) [] H) : Does prog W f_z1w ⟨[a0]⟩ H R :=
 Does.of_exec tab_ok f_z1w.live Tryz.func121 rfl rfl rfl (by simp) h
def f_z1w.plan5 : List Nat := [0, 1, 2, 3, 4, 5, 6, 7, 8, 9]
def f_z1w.last5 : List Nat := [8, 9]
theorem f_z38.ok : Callable prog f_z38 := callable_of Tryz.func123 (by kernel_rfl) rfl
def f_z38.live : Nat → Option (List Nat) := lvs [[0],[0,4],[2],[2]]
theorem f_z38.does (a0 : Value) (h : exec prog W tab 8 f_z38.live (codeOf Tryz.f123) (bodyQ prog W tab [.tmp 2] R) (argFr 0 [a0]) [] H) : Does prog W f_z38 ⟨[a0]⟩ H R :=
 Does.of_exec tab_ok f_z38.live Tryz.func123 rfl rfl rfl (by simp) h
theorem f_zh.ok : Callable prog f_zh := callable_of Tryz.func124 (by kernel_rfl) rfl
def f_zh.live : Nat → Option (List Nat) := lvs [[0,3],[0,3,10,11,12],[0,3,10,11,12,13],[0,3,5,6,10,11,12],[0,3,5,6,10,11,12,17],[0,3,10,11,12],[0,3,6,10,11,12,28],[0,3,10,11,12],[0,3,10,11,12],[0],[0],[0],[],[4]]
theorem f_zh.does (a0 a1 : Value) (h : exec prog W tab 59 f_zh.live (codeOf Tryz.f124) (bodyQ prog W tab [.tmp 4] R) (argFr 0 [a0, a1]) [] H) : Does prog W f_zh ⟨[a0, a1]⟩ H R :=
 Does.of_exec tab_ok f_zh.live Tryz.func124 rfl rfl rfl (by simp) h
def f_zh.plan5 : List Nat := [0, 1, 2, 4, 5, 3, 6]
def f_zh.last5 : List Nat := [6]
def f_zh.plan7 : List Nat := [0, 1, 2, 4, 5, 6, 7, 8, 9, 10, 3, 11]
def f_zh.last7 : List Nat := [11]
theorem f_z48.ok : Callable prog f_z48 := callable_of Tryz.func125 (by kernel_rfl) rfl
def f_z48.live : Nat → Option (List Nat) := lvs [[]]
theorem f_z48.does (a0 : Value) (h : exec prog W tab 3 f_z48.live (codeOf Tryz.f125) (bodyQ prog W tab [] R) (argFr 0 [a0]) [] H) : Does prog W f_z48 ⟨[a0]⟩ H R :=
 Does.of_exec tab_ok f_z48.live Tryz.func125 rfl rfl rfl (by simp) h
theorem f_z39.ok : Callable prog f_z39 := callable_of Tryz.func126 (by kernel_rfl) rfl
def f_z39.live : Nat → Option (List Nat) := lvs [[0,1],[4]]
theorem f_z39.does (a0 a1 : Value) (h : exec prog W tab 9 f_z39.live (codeOf Tryz.f126) (bodyQ prog W tab [.tmp 4] R) (argFr 0 [a0, a1]) [] H) : Does prog W f_z39 ⟨[a0, a1]⟩ H R :=
 Does.of_exec tab_ok f_z39.live Tryz.func126 rfl rfl rfl (by simp) h
theorem f_z49.ok : Callable prog f_z49 := callable_of Tryz.func127 (by kernel_rfl) rfl
def f_z49.live : Nat → Option (List Nat) := lvs [[0],[2]]
theorem f_z49.does (a0 : Value) (h : exec prog W tab 5 f_z49.live (codeOf Tryz.f127) (bodyQ prog W tab [.tmp 2] R) (argFr 0 [a0]) [] H) : Does prog W f_z49 ⟨[a0]⟩ H R :=
 Does.of_exec tab_ok f_z49.live Tryz.func127 rfl rfl rfl (by simp) h
theorem f_z2p.ok : Callable prog f_z2p := callable_of Tryz.func128 (by kernel_rfl) rfl
def f_z2p.live : Nat → Option (List Nat) := lvs [[0,1,2],[6]]
theorem f_z2p.does (a0 a1 a2 : Value) (h : exec prog W tab 23 f_z2p.live (codeOf Tryz.f128) (bodyQ prog W tab [.tmp 6] R) (argFr 0 [a0, a1, a2]) [] H) : Does prog W f_z2p ⟨[a0, a1, a2]⟩ H R :=
 Does.of_exec tab_ok f_z2p.live Tryz.func128 rfl rfl rfl (by simp) h
theorem f_z27.ok : Callable prog f_z27 := callable_of Tryz.func129 (by kernel_rfl) rfl
def f_z27.live : Nat → Option (List Nat) := lvs [[0,1,2,6],[0,1,2,6,11],[0,1,2,6],[0,1,2,6],[]]
theorem f_z27.does (a0 a1 a2 : Value) (h : exec prog W tab 30 f_z27.live (codeOf Tryz.f129) (bodyQ prog W tab [] R) (argFr 0 [a0, a1, a2]) [] H) : Does prog W f_z27 ⟨[a0, a1, a2]⟩ H R :=
 Does.of_exec tab_ok f_z27.live Tryz.func129 rfl rfl rfl (by simp) h
theorem f_z4a.ok : Callable prog f_z4a := callable_of Tryz.func130 (by kernel_rfl) rfl
def f_z4a.live : Nat → Option (List Nat) := lvs [[0],[0,17],[2,3],[2,3]]
theorem f_z4a.does (a0 : Value) (h : exec prog W tab 22 f_z4a.live (codeOf Tryz.f130) (bodyQ prog W tab [.tmp 2, .tmp 3] R) (argFr 0 [a0]) [] H) : Does prog W f_z4a ⟨[a0]⟩ H R :=
 Does.of_exec tab_ok f_z4a.live Tryz.func130 rfl rfl rfl (by simp) h
theorem f_z4b.ok : Callable prog f_z4b := callable_of Tryz.func131 (by kernel_rfl) rfl
def f_z4b.live : Nat → Option (List Nat) := lvs [[0],[2]]
theorem f_z4b.does (a0 : Value) (h : exec prog W tab 9 f_z4b.live (codeOf Tryz.f131) (bodyQ prog W tab [.tmp 2] R) (argFr 0 [a0]) [] H) : Does prog W f_z4b ⟨[a0]⟩ H R :=
 Does.of_exec tab_ok f_z4b.live Tryz.func131 rfl rfl rfl (by simp) h
theorem f_z1x.ok : Callable prog f_z1x := callable_of Tryz.func132 (by kernel_rfl) rfl
def f_z1x.live : Nat → Option (List Nat) := lvs [[0],[0,4],[2],[2]]
theorem f_z1x.does (a0 : Value) (h : exec prog W tab 8 f_z1x.live (codeOf Tryz.f132) (bodyQ prog W tab [.tmp 2] R) (argFr 0 [a0]) [] H) : Does prog W f_z1x ⟨[a0]⟩ H R :=
 Does.of_exec tab_ok f_z1x.live Tryz.func132 rfl rfl rfl (by simp) h
theorem f_z2g.ok : Callable prog f_z2g := callable_of Tryz.func155 (by kernel_rfl) rfl
def f_z2g.live : Nat → Option (List Nat) := lvs [[1,2,4],[1,4],[4],[4]]
theorem f_z2g.does (a0 a1 : Value) (h : exec prog W tab 8 f_z2g.live (codeOf Tryz.f155) (bodyQ prog W tab [.cell 4 49] R) (argFr 0 [a0, a1]) [] H) : Does prog W f_z2g ⟨[a0, a1]⟩ H R :=
 Does.of_exec tab_ok f_z2g.live Tryz.func155 rfl rfl rfl (by simp) h
theorem f_z15.ok : Callable prog f_z15 := callable_of Tryz.func156 (by kernel_rfl) rfl
def f_z15.live : Nat → Option (List Nat) := lvs [[0,1,2,3,8],[0,1,2,3],[0,1,2,3,12],[0,1,2,3],[0,1,2,3,34],[0,1,2,3],[0,1,2,3,41],[0,1,2,3],[0,1,2,3,4],[0,1,3,4,45,46],[0,1,3,4,45,46,47],[0,1,3,4,5,45,46],[0,1,3,4,6,7,45,46],[0,1,3,4,6,45,46],[0,1,3,4,45,46],[0,1,3,4,45,46],[3,4],[]]
theorem f_z15.does (a0 a1 a2 a3 : Value) (h : exec prog W tab 71 f_z15.live (codeOf Tryz.f156) (bodyQ prog W tab [] R) (argFr 0 [a0, a1, a2, a3]) [] H) : Does prog W f_z15 ⟨[a0, a1, a2, a3]⟩ H R :=
 Does.of_exec tab_ok f_z15.live Tryz.func156 rfl rfl rfl (by simp) h
def f_z15.plan2 : List Nat := [0, 1, 2, 3, 4, 5, 6, 7, 8, 9, 10, 11, 12, 13, 14, 16, 15, 17, 18, 19, 20]
def f_z15.last2 : List Nat := [18, 19, 20]
def f_z15.plan16 : List Nat := [0, 1, 2, 3]
def f_z15.last16 : List Nat := [3]
theorem f_zz.ok : Callable prog f_zz := callable_of Tryz.func157 (by kernel_rfl) rfl
def f_zz.live : Nat → Option (List Nat) := lvs [[0,3],[]]
theorem f_zz.does (a0 : Value) (h : exec prog W tab 7 f_zz.live (codeOf Tryz.f157) (bodyQ prog W tab [] R) (argFr 0 [a0]) [] H) : Does prog W f_zz ⟨[a0]⟩ H R :=
 Does.of_exec tab_ok f_zz.live Tryz.func157 rfl rfl rfl (by simp) h
theorem f_z1i.ok : Callable prog f_z1i := callable_of Tryz.func158 (by kernel_rfl) rfl
def f_z1i.live : Nat → Option (List Nat) := lvs [[0],[2]]
theorem f_z1i.does (a0 : Value) (h : exec prog W tab 9 f_z1i.live (codeOf Tryz.f158) (bodyQ prog W tab [.tmp 2] R) (argFr 0 [a0]) [] H) : Does prog W f_z1i ⟨[a0]⟩ H R :=
 Does.of_exec tab_ok f_z1i.live Tryz.func158 rfl rfl rfl (by simp) h
theorem f_z10.ok : Callable prog f_z10 := callable_of Tryz.func159 (by kernel_rfl) rfl
def f_z10.live : Nat → Option (List Nat) := lvs [[0],[0,8],[2],[0,10],[2],[0,20,21,22],[0,20,21,22,23],[0,4,20,21,22],[0,20,21,22],[0,20,21,22],[],[2]]
theorem f_z10.does (a0 : Value) (h : exec prog W tab 37 f_z10.live (codeOf Tryz.f159) (bodyQ prog W tab [.tmp 2] R) (argFr 0 [a0]) [] H) : Does prog W f_z10 ⟨[a0]⟩ H R :=
 Does.of_exec tab_ok f_z10.live Tryz.func159 rfl rfl rfl (by simp) h
def f_z10.plan8 : List Nat := [0, 1, 2, 4, 5, 3, 6]
def f_z10.last8 : List Nat := [6]
theorem f_z11.ok : Callable prog f_z11 := callable_of Tryz.func160 (by kernel_rfl) rfl
def f_z11.live : Nat → Option (List Nat) := lvs [[0,3,4,5,28],[0,3,4,5,8,28],[4,5],[0,3,4,5,13,28],[4,5],[0,3,4,5,26,28],[0,3,4,5,7],[0,3,4,5,7,32],[4,5],[4,5]]
theorem f_z11.does (a0 a1 : Value) (h : exec prog W tab 40 f_z11.live (codeOf Tryz.f160) (bodyQ prog W tab [.cell 4 54, .cell 5 46] R) (argFr 0 [a0, a1]) [] H) : Does prog W f_z11 ⟨[a0, a1]⟩ H R :=
 Does.of_exec tab_ok f_z11.live Tryz.func160 rfl rfl rfl (by simp) h
def f_z11.plan3 : List Nat := [0, 1, 2, 3, 4, 5, 6, 7, 8]
def f_z11.last3 : List Nat := [6, 7, 8]
theorem f_z1y.ok : Callable prog f_z1y := callable_of Tryz.func161 (by kernel_rfl) rfl
def f_z1y.live : Nat → Option (List Nat) := lvs [[0,8,9,10],[0,8,9,10,11],[0,4,5,8,9,10],[0,4,6,7,8,9,10],[0,4,6,7,8,9,10],[0,4,6,7,8,9,10,24],[0,4,6,7,8,9,10],[0,4,6,8,9,10,28],[0,6,8,9,10],[0,8,9,10],[0,8,9,10],[]]
theorem f_z1y.does (a0 a1 : Value) (h : exec prog W tab 52 f_z1y.live (codeOf Tryz.f161) (bodyQ prog W tab [] R) (argFr 0 [a0, a1]) [] H) : Does prog W f_z1y ⟨[a0, a1]⟩ H R :=
 Does.of_exec tab_ok f_z1y.live Tryz.func161 rfl rfl rfl (by simp) h
def f_z1y.plan9 : List Nat := [0, 1, 2, 3, 4, 5, 6, 7, 8, 9, 10]
def f_z1y.last9 : List Nat := [8, 9, 10]
theorem f_z2q.ok : Callable prog f_z2q := callable_of Tryz.func162 (by kernel_rfl) rfl
def f_z2q.live : Nat → Option (List Nat) := lvs [[0],[0,3],[3,9,10,11],[3,9,10,11,12],[3,4,5,9,10,11],[3,4,5,6,9,10,11],[3,5,6,9,10,11,42],[3,5,6,9,10,11,46,47,48],[3,5,6,9,10,11,46,47,48,49],[3,5,6,8,9,10,11,46,47,48],[3,5,6,9,10,11,46,47,48,53],[3,5,6,9,10,11,46,47,48],[3,9,10,11],[3,9,10,11],[2]]
theorem f_z2q.does (a0 : Value) (h : exec prog W tab 64 f_z2q.live (codeOf Tryz.f162) (bodyQ prog W tab [.tmp 2] R) (argFr 0 [a0]) [] H) : Does prog W f_z2q ⟨[a0]⟩ H R :=
 Does.of_exec tab_ok f_z2q.live Tryz.func162 rfl rfl rfl (by simp) h
theorem f_z1j.ok : Callable prog f_z1j := callable_of Tryz.func163 (by kernel_rfl) rfl
def f_z1j.live : Nat → Option (List Nat) := lvs [[0,1,4],[0,1,4,5],[0,1,4,5,16],[0,1,4,5],[0,1,4,5,24],[0,1,5],[0,1,4,5],[0,38],[]]
theorem f_z1j.does (a0 a1 : Value) (h : exec prog W tab 45 f_z1j.live (codeOf Tryz.f163) (bodyQ prog W tab [] R) (argFr 0 [a0, a1]) [] H) : Does prog W f_z1j ⟨[a0, a1]⟩ H R :=
 Does.of_exec tab_ok f_z1j.live Tryz.func163 rfl rfl rfl (by simp) h
def f_z1j.plan5 : List Nat := [0, 1, 2, 3, 4, 5, 6, 7, 8, 9, 10, 11, 12]
def f_z1j.last5 : List Nat := [11, 12]
theorem f_z6.ok : Callable prog f_z6 := callable_of Tryz.func164 (by kernel_rfl) rfl
def f_z6.live : Nat → Option (List Nat) := lvs [[1],[1,13],[2],[1,3],[1,3,4],[1,3,4,19],[1,3,4,19,20],[1,3,4,19,22],[1,3,4,19,24],[1,3,4,19,24],[1,3,4,19,27],[1,3,4,19,27],[1,3,4,19,27],[1,3,4,31],[1,3,4,5],[3,4],[3,4],[3,4],[3,4],[1,3,4],[1,3,4],[1,3,4],[1,3,4],[3,4],[3,4],[133],[2],[2]]
theorem f_z6.does (a0 : Value) (h : exec prog W tab 134 f_z6.live (codeOf Tryz.f164) (bodyQ prog W tab [.tmp 2] R) (argFr 0 [a0]) [] H) : Does prog W f_z6 ⟨[a0]⟩ H R :=
 Does.of_exec tab_ok f_z6.live Tryz.func164 rfl rfl rfl (by simp) h
theorem f_z1z.ok : Callable prog f_z1z := callable_of Tryz.func165 (by kernel_rfl) rfl
def f_z1z.live : Nat → Option (List Nat) := lvs [[0],[2]]
theorem f_z1z.does (a0 : Value) (h : exec prog W tab 13 f_z1z.live (codeOf Tryz.f165) (bodyQ prog W tab [.tmp 2] R) (argFr 0 [a0]) [] H) : Does prog W f_z1z ⟨[a0]⟩ H R :=
 Does.of_exec tab_ok f_z1z.live Tryz.func165 rfl rfl rfl (by simp) h
def f_z1z.plan1 : List Nat := [0, 1, 2, 3, 4, 5, 6, 7, 8, 9, 10]
def f_z1z.last1 : List Nat := [9, 10]
theorem f_z28.ok : Callable prog f_z28 := callable_of Tryz.func166 (by kernel_rfl) rfl
def f_z28.live : Nat → Option (List Nat) := lvs [[1],[1,4],[1,4,19],[2,3],[1,5],[1,5],[1,5,6,7],[1,5,7,31,32,33],[1,5,7,31,32,33,34],[1,5,7,9,31,32,33],[1,5,7,31,32,33],[1,5,7,31,32,33],[1,5,44,45,46],[1,5,44,45,46,47],[1,5,11,44,45,46],[1,5,44,45,46],[1,5,44,45,46],[1,5,58],[1,5],[1,5,68,69,70],[1,5,68,69,70,71],[1,5,13,68,69,70],[1,5,13,68,69,70],[1,5,13,68,69,70],[1,5,68,69,70],[1,5,68,69,70],[1,5],[5,98,99,100],[5,98,99,100,101],[5,15,98,99,100],[5,15,98,99,100],[5,98,99,100],[5,98,99,100],[2,3]]
theorem f_z28.does (a0 : Value) (h : exec prog W tab 117 f_z28.live (codeOf Tryz.f166) (bodyQ prog W tab [.tmp 2, .tmp 3] R) (argFr 0 [a0]) [] H) : Does prog W f_z28 ⟨[a0]⟩ H R :=
 Does.of_exec tab_ok f_z28.live Tryz.func166 rfl rfl rfl (by simp) h
theorem f_log_own.ok : Callable prog f_log_own := callable_of Tryz.func167 (by kernel_rfl) rfl
def f_log_own.live : Nat → Option (List Nat) := lvs [[1,2],[1,2],[1,2],[2]]
theorem f_log_own.does (a0 : Value) (h : exec prog W tab 16 f_log_own.live (codeOf Tryz.f167) (bodyQ prog W tab [.cell 2 126] R) (argFr 0 [a0]) [] H) : Does prog W f_log_own ⟨[a0]⟩ H R :=
 Does.of_exec tab_ok f_log_own.live Tryz.func167 rfl rfl rfl (by simp) h
theorem f_z7.ok : Callable prog f_z7 := callable_of Tryz.func168 (by kernel_rfl) rfl
def f_z7.live : Nat → Option (List Nat) := lvs [[0,3],[0,3,5],[0,3,5,14],[4],[0,3,7],[0,3,7,22],[4],[0,3,8],[0,3,8,32],[4],[0,3,8,50],[4],[0,3,8],[0,3,8,60],[0,8],[],[4]]
theorem f_z7.does (a0 a1 : Value) (h : exec prog W tab 72 f_z7.live (codeOf Tryz.f168) (bodyQ prog W tab [.tmp 4] R) (argFr 0 [a0, a1]) [] H) : Does prog W f_z7 ⟨[a0, a1]⟩ H R :=
 Does.of_exec tab_ok f_z7.live Tryz.func168 rfl rfl rfl (by simp) h
def f_z7.plan7 : List Nat := [0, 1, 2, 3, 4, 5, 6, 7]
def f_z7.last7 : List Nat := [6, 7]
def f_z7.plan10 : List Nat := [0, 1, 2, 3, 4, 5, 6, 7, 8, 9, 10, 11, 12, 13, 14, 15, 16, 17]
def f_z7.last10 : List Nat := [16, 17]
def f_z7.plan14 : List Nat := [0, 1, 2, 3, 4, 5, 6, 7, 8, 9]
def f_z7.last14 : List Nat := [7, 8, 9]
theorem f_z2h.ok : Callable prog f_z2h := callable_of Tryz.func169 (by kernel_rfl) rfl
def f_z2h.live : Nat → Option (List Nat) := lvs [[1,2],[1,2,3],[1,2,3,4],[1,2,3,4,20],[1,2,3,4],[1,2,3,4,5],[1,2,3,4,5],[1,2,3,4,5],[1,2,3,4,5,42],[1,2,3,4,5],[1,2,3,4],[1,2,3,6],[1,2,3,6,71],[1,2,3,6],[1,2,3,6,7],[1,2,3,6,7],[1,2,3,6],[1,2,3,96],[2,3],[2]]
theorem f_z2h.does (a0 : Value) (h : exec prog W tab 102 f_z2h.live (codeOf Tryz.f169) (bodyQ prog W tab [.cell 2 32] R) (argFr 0 [a0]) [] H) : Does prog W f_z2h ⟨[a0]⟩ H R :=
 Does.of_exec tab_ok f_z2h.live Tryz.func169 rfl rfl rfl (by simp) h
theorem f_z20.ok : Callable prog f_z20 := callable_of Tryz.func170 (by kernel_rfl) rfl
def f_z20.live : Nat → Option (List Nat) := lvs [[0,1],[0,1,5],[0,1,5,21],[4],[0,1,5,6],[0,1,5,6,35],[4],[0,1,5,7,8],[0,1,5,7,8,46],[4],[0,5,7,8,9],[0,5,7,8,9,58],[4],[5,10],[5,10,70],[4],[],[4]]
theorem f_z20.does (a0 a1 : Value) (h : exec prog W tab 78 f_z20.live (codeOf Tryz.f170) (bodyQ prog W tab [.tmp 4] R) (argFr 0 [a0, a1]) [] H) : Does prog W f_z20 ⟨[a0, a1]⟩ H R :=
 Does.of_exec tab_ok f_z20.live Tryz.func170 rfl rfl rfl (by simp) h
def f_z20.plan4 : List Nat := [0, 1, 2, 3, 4, 5, 6, 7, 8, 9, 10, 11, 12]
def f_z20.last4 : List Nat := [11, 12]
theorem f_z1k.ok : Callable prog f_z1k := callable_of Tryz.func171 (by kernel_rfl) rfl
def f_z1k.live : Nat → Option (List Nat) := lvs [[0,1,2],[0,1,2,10],[0,1,2],[0,1,2],[]]
theorem f_z1k.does (a0 a1 : Value) (h : exec prog W tab 47 f_z1k.live (codeOf Tryz.f171) (bodyQ prog W tab [] R) (argFr 0 [a0, a1]) [] H) : Does prog W f_z1k ⟨[a0, a1]⟩ H R :=
 Does.of_exec tab_ok f_z1k.live Tryz.func171 rfl rfl rfl (by simp) h
def f_z1k.plan3 : List Nat := [0, 1, 2, 3, 4, 5, 6, 7, 8, 9, 10, 11, 12, 13, 14, 15, 16, 17, 18, 19, 20, 21, 22, 23, 24, 25, 26, 27]
def f_z1k.last3 : List Nat := [26, 27]
theorem f_z16.ok : Callable prog f_z16 := callable_of Tryz.func172 (by kernel_rfl) rfl
def f_z16.live : Nat → Option (List Nat) := lvs [[0,1,2],[0,1,2,8],[6],[0,1,2,13],[6],[0,1,2,22],[6],[0,1,2,7],[0,7],[0,41],[6],[6]]
theorem f_z16.does (a0 a1 a2 : Value) (h : exec prog W tab 48 f_z16.live (codeOf Tryz.f172) (bodyQ prog W tab [.tmp 6] R) (argFr 0 [a0, a1, a2]) [] H) : Does prog W f_z16 ⟨[a0, a1, a2]⟩ H R :=
 Does.of_exec tab_ok f_z16.live Tryz.func172 rfl rfl rfl (by simp) h
def f_z16.plan8 : List Nat := [0, 1, 2, 3, 4, 5, 6, 7, 8, 9, 10, 11, 12, 13]
def f_z16.last8 : List Nat := [11, 12, 13]
theorem f_log_laid.ok : Callable prog f_log_laid := callable_of Tryz.func173 (by kernel_rfl) rfl
def f_log_laid.live : Nat → Option (List Nat) := lvs [[0,1],[0,1,5],[0,1,5],[1,5],[1,5],[5],[5],[4]]
theorem f_log_laid.does (a0 a1 : Value) (h : exec prog W tab 25 f_log_laid.live (codeOf Tryz.f173) (bodyQ prog W tab [.tmp 4] R) (argFr 0 [a0, a1]) [] H) : Does prog W f_log_laid ⟨[a0, a1]⟩ H R :=
 Does.of_exec tab_ok f_log_laid.live Tryz.func173 rfl rfl rfl (by simp) h
theorem f_z3a.ok : Callable prog f_z3a := callable_of Tryz.func177 (by kernel_rfl) rfl
def f_z3a.live : Nat → Option (List Nat) := lvs [[0,1,3,6],[0,1,3,6,19],[],[8],[0,1,3,6,9,10],[0,1,3,6,35],[8],[1,3,6,36],[],[8],[1,3,6,36,38,39],[1,3,6,11],[0,1,3,6],[0,1,3,6,43],[8],[1,3,6,36,45,46],[1,3,6,12],[1,3,6,48,49,50],[1,3,6,48,49,50,51],[1,3,6,14,48,49,50],[1,3,6,14,48,49,50,55],[1,3,6,48,49,50,60],[8],[1,3,6,48,49,50],[8]]
theorem f_z3a.does (a0 a1 a2 a3 : Value) (h : exec prog W tab 62 f_z3a.live (codeOf Tryz.f177) (bodyQ prog W tab [.tmp 8] R) (argFr 0 [a0, a1, a2, a3]) [] H) : Does prog W f_z3a ⟨[a0, a1, a2, a3]⟩ H R :=
 Does.of_exec tab_ok f_z3a.live Tryz.func177 rfl rfl rfl (by simp) h
theorem f_z1q.ok : Callable prog f_z1q := callable_of Tryz.func178 (by kernel_rfl) rfl
def f_z1q.live : Nat → Option (List Nat) := lvs [[]]
theorem f_z1q.does (a0 : Value) (h : exec prog W tab 6 f_z1q.live (codeOf Tryz.f178) (bodyQ prog W tab [] R) (argFr 0 [a0]) [] H) : Does prog W f_z1q ⟨[a0]⟩ H R :=
 Does.of_exec tab_ok f_z1q.live Tryz.func178 rfl rfl rfl (by simp) h
theorem f_z3p.ok : Callable prog f_z3p := callable_of Tryz.func179 (by kernel_rfl) rfl
def f_z3p.live : Nat → Option (List Nat) := lvs [[0],[2]]
theorem f_z3p.does (a0 : Value) (h : exec prog W tab 5 f_z3p.live (codeOf Tryz.f179) (bodyQ prog W tab [.tmp 2] R) (argFr 0 [a0]) [] H) : Does prog W f_z3p ⟨[a0]⟩ H R :=
 Does.of_exec tab_ok f_z3p.live Tryz.func179 rfl rfl rfl (by simp) h
theorem f_z3b.ok : Callable prog f_z3b := callable_of Tryz.func180 (by kernel_rfl) rfl
def f_z3b.live : Nat → Option (List Nat) := lvs [[0,1,2],[6]]
theorem f_z3b.does (a0 a1 a2 : Value) (h : exec prog W tab 29 f_z3b.live (codeOf Tryz.f180) (bodyQ prog W tab [.tmp 6] R) (argFr 0 [a0, a1, a2]) [] H) : Does prog W f_z3b ⟨[a0, a1, a2]⟩ H R :=
 Does.of_exec tab_ok f_z3b.live Tryz.func180 rfl rfl rfl (by simp) h
theorem f_z2r.ok : Callable prog f_z2r := callable_of Tryz.func181 (by kernel_rfl) rfl
def f_z2r.live : Nat → Option (List Nat) := lvs [[0],[0,3],[3,8,9,10],[3,8,9,10,11],[3,5,8,9,10],[3,8,9,10,14,15,16],[3,8,9,10,14,15,16,17],[3,7,8,9,10,14,15,16],[3,8,9,10,14,15,16],[3,8,9,10,14,15,16],[3,8,9,10,14,15,16],[3,8,9,10,14,15,16],[3,8,9,10],[2]]
theorem f_z2r.does (a0 : Value) (h : exec prog W tab 42 f_z2r.live (codeOf Tryz.f181) (bodyQ prog W tab [.tmp 2] R) (argFr 0 [a0]) [] H) : Does prog W f_z2r ⟨[a0]⟩ H R :=
 Does.of_exec tab_ok f_z2r.live Tryz.func181 rfl rfl rfl (by simp) h
theorem f_z43.ok : Callable prog f_z43 := callable_of Tryz.func184 (by kernel_rfl) rfl
def f_z43.live : Nat → Option (List Nat) := lvs [[0,5],[0,5,7],[0,3,5],[0,5,13]]
theorem f_z43.does (a0 a1 : Value) (h : exec prog W tab 14 f_z43.live (codeOf Tryz.f184) (bodyQ prog W tab [] R) (argFr 0 [a0, a1]) [] H) : Does prog W f_z43 ⟨[a0, a1]⟩ H R :=
 Does.of_exec tab_ok f_z43.live Tryz.func184 rfl rfl rfl (by simp) h
theorem f_z29.ok : Callable prog f_z29 := callable_of Tryz.func185 (by kernel_rfl) rfl
def f_z29.live : Nat → Option (List Nat) := lvs [[0,1],[]]
theorem f_z29.does (a0 a1 : Value) (h : exec prog W tab 18 f_z29.live (codeOf Tryz.f185) (bodyQ prog W tab [] R) (argFr 0 [a0, a1]) [] H) : Does prog W f_z29 ⟨[a0, a1]⟩ H R :=
 Does.of_exec tab_ok f_z29.live Tryz.func185 rfl rfl rfl (by simp) h
theorem f_zm.ok : Callable prog f_zm := callable_of Tryz.func186 (by kernel_rfl) rfl
def f_zm.live : Nat → Option (List Nat) := lvs [[0],[0,4,5],[0,4,5,12],[0,4,5,12,14],[0,4,5,6,7,12],[0,4,5,6,12,42],[0,4,5,12],[2,3]]
theorem f_zm.does (a0 : Value) (h : exec prog W tab 46 f_zm.live (codeOf Tryz.f186) (bodyQ prog W tab [.tmp 2, .tmp 3] R) (argFr 0 [a0]) [] H) : Does prog W f_zm ⟨[a0]⟩ H R :=
 Does.of_exec tab_ok f_zm.live Tryz.func186 rfl rfl rfl (by simp) h
def f_zm.plan5 : List Nat := [0, 1, 2, 3, 4, 5, 6, 7, 8, 9, 10, 11, 12, 13, 14, 15, 16, 17, 18, 19, 20, 21, 22, 23, 24]
def f_zm.last5 : List Nat := [22, 23, 24]
theorem f_z1r.ok : Callable prog f_z1r := callable_of Tryz.func187 (by kernel_rfl) rfl
def f_z1r.live : Nat → Option (List Nat) := lvs [[0,1],[0,5],[0,5,9],[0,5],[5],[4]]
theorem f_z1r.does (a0 a1 : Value) (h : exec prog W tab 18 f_z1r.live (codeOf Tryz.f187) (bodyQ prog W tab [.tmp 4] R) (argFr 0 [a0, a1]) [] H) : Does prog W f_z1r ⟨[a0, a1]⟩ H R :=
 Does.of_exec tab_ok f_z1r.live Tryz.func187 rfl rfl rfl (by simp) h
theorem f_z3c.ok : Callable prog f_z3c := callable_of Tryz.func188 (by kernel_rfl) rfl
def f_z3c.live : Nat → Option (List Nat) := lvs [[0],[0,4],[2],[2]]
theorem f_z3c.does (a0 : Value) (h : exec prog W tab 8 f_z3c.live (codeOf Tryz.f188) (bodyQ prog W tab [.tmp 2] R) (argFr 0 [a0]) [] H) : Does prog W f_z3c ⟨[a0]⟩ H R :=
 Does.of_exec tab_ok f_z3c.live Tryz.func188 rfl rfl rfl (by simp) h
theorem f_z3d.ok : Callable prog f_z3d := callable_of Tryz.func189 (by kernel_rfl) rfl
def f_z3d.live : Nat → Option (List Nat) := lvs [[0],[0,4],[2],[2]]
theorem f_z3d.does (a0 : Value) (h : exec prog W tab 8 f_z3d.live (codeOf Tryz.f189) (bodyQ prog W tab [.tmp 2] R) (argFr 0 [a0]) [] H) : Does prog W f_z3d ⟨[a0]⟩ H R :=
 Does.of_exec tab_ok f_z3d.live Tryz.func189 rfl rfl rfl (by simp) h
theorem f_z2s.ok : Callable prog f_z2s := callable_of Tryz.func210 (by kernel_rfl) rfl
def f_z2s.live : Nat → Option (List Nat) := lvs [[1,2],[4]]
theorem f_z2s.does (a0 a1 : Value) (h : exec prog W tab 24 f_z2s.live (codeOf Tryz.f210) (bodyQ prog W tab [.tmp 4] R) (argFr 0 [a0, a1]) [] H) : Does prog W f_z2s ⟨[a0, a1]⟩ H R :=
 Does.of_exec tab_ok f_z2s.live Tryz.func210 rfl rfl rfl (by simp) h
theorem f_z2i.ok : Callable prog f_z2i := callable_of Tryz.func211 (by kernel_rfl) rfl
def f_z2i.live : Nat → Option (List Nat) := lvs [[0,1],[4]]
theorem f_z2i.does (a0 a1 : Value) (h : exec prog W tab 15 f_z2i.live (codeOf Tryz.f211) (bodyQ prog W tab [.tmp 4] R) (argFr 0 [a0, a1]) [] H) : Does prog W f_z2i ⟨[a0, a1]⟩ H R :=
 Does.of_exec tab_ok f_z2i.live Tryz.func211 rfl rfl rfl (by simp) h
theorem f_z3e.ok : Callable prog f_z3e := callable_of Tryz.func212 (by kernel_rfl) rfl
def f_z3e.live : Nat → Option (List Nat) := lvs [[0,1],[0,1,7,8],[0,1,7,8,9],[0,1,5,7,8],[0,1,5,7,8,16],[4],[0,1,7,8],[4]]
theorem f_z3e.does (a0 a1 : Value) (h : exec prog W tab 19 f_z3e.live (codeOf Tryz.f212) (bodyQ prog W tab [.tmp 4] R) (argFr 0 [a0, a1]) [] H) : Does prog W f_z3e ⟨[a0, a1]⟩ H R :=
 Does.of_exec tab_ok f_z3e.live Tryz.func212 rfl rfl rfl (by simp) h
theorem f_z4c.ok : Callable prog f_z4c := callable_of Tryz.func217 (by kernel_rfl) rfl
def f_z4c.live : Nat → Option (List Nat) := lvs [[0,1,4],[0,1,4,6],[4,5],[0,1,4,13],[4,5],[4,5]]
theorem f_z4c.does (a0 a1 : Value) (h : exec prog W tab 35 f_z4c.live (codeOf Tryz.f217) (bodyQ prog W tab [.cell 4 126, .tmp 5] R) (argFr 0 [a0, a1]) [] H) : Does prog W f_z4c ⟨[a0, a1]⟩ H R :=
 Does.of_exec tab_ok f_z4c.live Tryz.func217 rfl rfl rfl (by simp) h
noncomputable abbrev f_zq.def : Func := Tryz.f227
theorem f_zq.fn : prog.funcs[f_zq]? = some f_zq.def := Tryz.func227
theorem f_zq.ok : Callable prog f_zq := callable_of Tryz.func227 (by kernel_rfl) rfl
def f_zq.live : Nat → Option (List Nat) := lvs [[0,1,2],[0,1,2,7],[0,1,2,3,4],[0,1,2,3,14],[0,1,3],[]]
theorem f_zq.does (a0 a1 : Value) (h : exec prog W tab 25 f_zq.live (codeOf Tryz.f227) (bodyQ prog W tab [] R) (argFr 0 [a0, a1]) [] H) : Does prog W f_zq ⟨[a0, a1]⟩ H R :=
 Does.of_exec tab_ok f_zq.live Tryz.func227 rfl rfl rfl (by simp) h
theorem f_z3f.ok : Callable prog f_z3f := callable_of Tryz.func228 (by kernel_rfl) rfl
def f_z3f.live : Nat → Option (List Nat) := lvs [[0],[0],[0,14],[2],[0],[2]]
theorem f_z3f.does (a0 : Value) (h : exec prog W tab 27 f_z3f.live (codeOf Tryz.f228) (bodyQ prog W tab [.tmp 2] R) (argFr 0 [a0]) [] H) : Does prog W f_z3f ⟨[a0]⟩ H R :=
 Does.of_exec tab_ok f_z3f.live Tryz.func228 rfl rfl rfl (by simp) h
theorem f_z3q.ok : Callable prog f_z3q := callable_of Tryz.func229 (by kernel_rfl) rfl
def f_z3q.live : Nat → Option (List Nat) := lvs [[1],[2]]
theorem f_z3q.does (a0 : Value) (h : exec prog W tab 4 f_z3q.live (codeOf Tryz.f229) (bodyQ prog W tab [.tmp 2] R) (argFr 0 [a0]) [] H) : Does prog W f_z3q ⟨[a0]⟩ H R :=
 Does.of_exec tab_ok f_z3q.live Tryz.func229 rfl rfl rfl (by simp) h
theorem f_zb.ok : Callable prog f_zb := callable_of Tryz.func230 (by kernel_rfl) rfl
def f_zb.live : Nat → Option (List Nat) := lvs [[0,2],[2,4],[2,4,5],[2,4,5,7],[2,4,5,7,31],[2,3],[2,4,5,39],[2,3],[2,4,8],[2,4,8,9],[2,4,8,9,46],[2,4,8,9],[2,4,8,9,10,11],[2,4,8,9,11,53,54,55],[2,4,8,9,11,53,54,55,56],[2,4,8,9,11,13,53,54,55],[2,4,8,9,11,53,54,55],[2,4,8,9,11,53,54,55],[2,4,8,66,67,68],[2,4,8,66,67,68,69],[2,4,8,15,66,67,68],[2,4,8,66,67,68],[2,4,8,66,67,68],[2,4,8,79],[2,4,8,81,82],[2,4,8,81,82,83],[2,4,8,16,81,82],[2,4,8,16,17,81,82],[2,4,8,16,81,82],[2,4,8,81,82],[2,4,8,81,82],[2,4,8,109,110],[2,4,8,109,110,111],[2,4,8,109,110],[2,4,8,109,110],[2,4,8],[2,8,19],[2,8,19,135],[2,3],[2,8,20],[2,8,20,141],[2,3],[2,3]]
theorem f_zb.does (a0 : Value) (h : exec prog W tab 145 f_zb.live (codeOf Tryz.f230) (bodyQ prog W tab [.cell 2 126, .tmp 3] R) (argFr 0 [a0]) [] H) : Does prog W f_zb ⟨[a0]⟩ H R :=
 Does.of_exec tab_ok f_zb.live Tryz.func230 rfl rfl rfl (by simp) h
def f_zb.plan33 : List Nat := [0, 1, 2, 3, 6, 4, 5, 7, 8, 9, 10, 11, 12, 13, 14]
def f_zb.last33 : List Nat := [11, 12, 13, 14]
theorem f_z2j.ok : Callable prog f_z2j := callable_of Tryz.func231 (by kernel_rfl) rfl
def f_z2j.live : Nat → Option (List Nat) := lvs [[0,1,2],[7],[6]]
theorem f_z2j.does (a0 a1 a2 : Value) (h : exec prog W tab 18 f_z2j.live (codeOf Tryz.f231) (bodyQ prog W tab [.tmp 6] R) (argFr 0 [a0, a1, a2]) [] H) : Does prog W f_z2j ⟨[a0, a1, a2]⟩ H R :=
 Does.of_exec tab_ok f_z2j.live Tryz.func231 rfl rfl rfl (by simp) h
theorem f_z2t.ok : Callable prog f_z2t := callable_of Tryz.func232 (by kernel_rfl) rfl
def f_z2t.live : Nat → Option (List Nat) := lvs [[0],[2]]
theorem f_z2t.does (a0 : Value) (h : exec prog W tab 6 f_z2t.live (codeOf Tryz.f232) (bodyQ prog W tab [.tmp 2] R) (argFr 0 [a0]) [] H) : Does prog W f_z2t ⟨[a0]⟩ H R :=
 Does.of_exec tab_ok f_z2t.live Tryz.func232 rfl rfl rfl (by simp) h
theorem f_zr.ok : Callable prog f_zr := callable_of Tryz.func233 (by kernel_rfl) rfl
def f_zr.live : Nat → Option (List Nat) := lvs [[0,1,2],[6]]
theorem f_zr.does (a0 a1 a2 : Value) (h : exec prog W tab 15 f_zr.live (codeOf Tryz.f233) (bodyQ prog W tab [.tmp 6] R) (argFr 0 [a0, a1, a2]) [] H) : Does prog W f_zr ⟨[a0, a1, a2]⟩ H R :=
 Does.of_exec tab_ok f_zr.live Tryz.func233 rfl rfl rfl (by simp) h
theorem f_z2u.ok : Callable prog f_z2u := callable_of Tryz.func234 (by kernel_rfl) rfl
def f_z2u.live : Nat → Option (List Nat) := lvs [[2,3],[4]]
theorem f_z2u.does (a0 a1 : Value) (h : exec prog W tab 30 f_z2u.live (codeOf Tryz.f234) (bodyQ prog W tab [.tmp 4] R) (argFr 0 [a0, a1]) [] H) : Does prog W f_z2u ⟨[a0, a1]⟩ H R :=
 Does.of_exec tab_ok f_z2u.live Tryz.func234 rfl rfl rfl (by simp) h
theorem f_z2v.ok : Callable prog f_z2v := callable_of Tryz.func235 (by kernel_rfl) rfl
def f_z2v.live : Nat → Option (List Nat) := lvs [[1,2],[1,2,26],[4],[1,2,5],[1,2,5,28,29,30],[1,2,5,28,29,30,31],[1,2,5,7,28,29,30],[1,2,7,28,29,30,65],[4],[1,2,5,28,29,30],[1,2,5,28,29,30],[1,2,8],[1,8,70,71,72],[1,8,70,71,72,73],[1,8,10,70,71,72],[1,10,70,71,72,97],[4],[1,8,70,71,72],[1,8,70,71,72],[4]]
theorem f_z2v.does (a0 a1 : Value) (h : exec prog W tab 101 f_z2v.live (codeOf Tryz.f235) (bodyQ prog W tab [.tmp 4] R) (argFr 0 [a0, a1]) [] H) : Does prog W f_z2v ⟨[a0, a1]⟩ H R :=
 Does.of_exec tab_ok f_z2v.live Tryz.func235 rfl rfl rfl (by simp) h
theorem f_z1s.ok : Callable prog f_z1s := callable_of Tryz.func236 (by kernel_rfl) rfl
def f_z1s.live : Nat → Option (List Nat) := lvs [[0,1],[4]]
theorem f_z1s.does (a0 a1 : Value) (h : exec prog W tab 12 f_z1s.live (codeOf Tryz.f236) (bodyQ prog W tab [.tmp 4] R) (argFr 0 [a0, a1]) [] H) : Does prog W f_z1s ⟨[a0, a1]⟩ H R :=
 Does.of_exec tab_ok f_z1s.live Tryz.func236 rfl rfl rfl (by simp) h
theorem f_z1l.ok : Callable prog f_z1l := callable_of Tryz.func237 (by kernel_rfl) rfl
def f_z1l.live : Nat → Option (List Nat) := lvs [[1],[2]]
theorem f_z1l.does (a0 : Value) (h : exec prog W tab 54 f_z1l.live (codeOf Tryz.f237) (bodyQ prog W tab [.tmp 2] R) (argFr 0 [a0]) [] H) : Does prog W f_z1l ⟨[a0]⟩ H R :=
 Does.of_exec tab_ok f_z1l.live Tryz.func237 rfl rfl rfl (by simp) h
theorem f_z3r.ok : Callable prog f_z3r := callable_of Tryz.func238 (by kernel_rfl) rfl
def f_z3r.live : Nat → Option (List Nat) := lvs [[],[0]]
theorem f_z3r.does (h : exec prog W tab 3 f_z3r.live (codeOf Tryz.f238) (bodyQ prog W tab [.tmp 0] R) (argFr 0 []) [] H) : Does prog W f_z3r ⟨[]⟩ H R :=
 Does.of_exec tab_ok f_z3r.live Tryz.func238 rfl rfl rfl (by simp) h
theorem f_z1m.ok : Callable prog f_z1m := callable_of Tryz.func239 (by kernel_rfl) rfl
def f_z1m.live : Nat → Option (List Nat) := lvs [[0,1,5],[0,1],[0,1],[]]
theorem f_z1m.does (a0 a1 : Value) (h : exec prog W tab 31 f_z1m.live (codeOf Tryz.f239) (bodyQ prog W tab [] R) (argFr 0 [a0, a1]) [] H) : Does prog W f_z1m ⟨[a0, a1]⟩ H R :=
 Does.of_exec tab_ok f_z1m.live Tryz.func239 rfl rfl rfl (by simp) h
theorem f_z4.ok : Callable prog f_z4 := callable_of Tryz.func240 (by kernel_rfl) rfl
def f_z4.live : Nat → Option (List Nat) := lvs [[0,2,3],[0,2,3,8],[0,2,3,8,9],[0,2,3,8,11],[0,2,3,8,13],[0,2,3,8,13],[0,2,3,8,16],[0,2,3,8,16],[0,2,3,16],[0,4],[2,3],[2,3],[0,2],[0,2,3],[0,2,3],[2,3],[2,3]]
theorem f_z4.does (a0 : Value) (h : exec prog W tab 102 f_z4.live (codeOf Tryz.f240) (bodyQ prog W tab [.tmp 2, .tmp 3] R) (argFr 0 [a0]) [] H) : Does prog W f_z4 ⟨[a0]⟩ H R :=
 Does.of_exec tab_ok f_z4.live Tryz.func240 rfl rfl rfl (by simp) h
def f_z4.tree10 : PT := (.op 0 (.op 1 (.op 2 (.op 3 (.op 4 (.op 5 (.op 6 (.op 7 (.op 8 (.op 9 (.op 10 (.op 11 (.op 12 (.op 13 (.op 14 (.op 15 (.op 16 (.op 17 (.op 18 (.op 19 (.op 20 (.op 21 (.op 23 (.op 24 (.op 25 (.op 26 (.op 27 (.op 28 (.op 29 (.op 30 (.op 31 (.op 32 (.op 33 (.two 22 (.op 35 (.op 34 (.op 36 .nil))) 34 (.op 22 (.op 35 (.op 36 .nil)))))))))))))))))))))))))))))))))))))
def f_z4.plan12 : List Nat := [0, 1, 2, 3, 4, 5, 6, 7, 8, 9, 10, 11, 12, 13, 14, 15, 16, 17, 18, 19, 20, 21]
def f_z4.last12 : List Nat := [20, 21]
theorem f_z3s.ok : Callable prog f_z3s := callable_of Tryz.func241 (by kernel_rfl) rfl
def f_z3s.live : Nat → Option (List Nat) := lvs [[]]
theorem f_z3s.does (a0 a1 : Value) (h : exec prog W tab 13 f_z3s.live (codeOf Tryz.f241) (bodyQ prog W tab [] R) (argFr 0 [a0, a1]) [] H) : Does prog W f_z3s ⟨[a0, a1]⟩ H R :=
 Does.of_exec tab_ok f_z3s.live Tryz.func241 rfl rfl rfl (by simp) h
theorem f_z3t.ok : Callable prog f_z3t := callable_of Tryz.func242 (by kernel_rfl) rfl
def f_z3t.live : Nat → Option (List Nat) := lvs [[1],[1,3],[2],[6],[2],[2]]
theorem f_z3t.does (a0 : Value) (h : exec prog W tab 9 f_z3t.live (codeOf Tryz.f242) (bodyQ prog W tab [.tmp 2] R) (argFr 0 [a0]) [] H) : Does prog W f_z3t ⟨[a0]⟩ H R :=
 Does.of_exec tab_ok f_z3t.live Tryz.func242 rfl rfl rfl (by simp) h
theorem f_z3g.ok : Callable prog f_z3g := callable_of Tryz.func243 (by kernel_rfl) rfl
def f_z3g.live : Nat → Option (List Nat) := lvs [[0],[2]]
theorem f_z3g.does (a0 : Value) (h : exec prog W tab 8 f_z3g.live (codeOf Tryz.f243) (bodyQ prog W tab [.tmp 2] R) (argFr 0 [a0]) [] H) : Does prog W f_z3g ⟨[a0]⟩ H R :=
 Does.of_exec tab_ok f_z3g.live Tryz.func243 rfl rfl rfl (by simp) h
theorem f_z3h.ok : Callable prog f_z3h := callable_of Tryz.func244 (by kernel_rfl) rfl
def f_z3h.live : Nat → Option (List Nat) := lvs [[0],[0,4],[2],[2]]
theorem f_z3h.does (a0 : Value) (h : exec prog W tab 8 f_z3h.live (codeOf Tryz.f244) (bodyQ prog W tab [.tmp 2] R) (argFr 0 [a0]) [] H) : Does prog W f_z3h ⟨[a0]⟩ H R :=
 Does.of_exec tab_ok f_z3h.live Tryz.func244 rfl rfl rfl (by simp) h
theorem f_z3i.ok : Callable prog f_z3i := callable_of Tryz.func245 (by kernel_rfl) rfl
def f_z3i.live : Nat → Option (List Nat) := lvs [[0],[0,4],[2],[2]]
theorem f_z3i.does (a0 : Value) (h : exec prog W tab 8 f_z3i.live (codeOf Tryz.f245) (bodyQ prog W tab [.tmp 2] R) (argFr 0 [a0]) [] H) : Does prog W f_z3i ⟨[a0]⟩ H R :=
 Does.of_exec tab_ok f_z3i.live Tryz.func245 rfl rfl rfl (by simp) h
theorem f_ze.ok : Callable prog f_ze := callable_of Tryz.func246 (by kernel_rfl) rfl
def f_ze.live : Nat → Option (List Nat) := lvs [[1],[1,4],[1,4,14],[2,3],[1,5],[1,5,19],[2,3],[1,5,6],[1,5,6,24],[1,5,6],[1,5],[1,5,40,41,42],[1,5,40,41,42,43],[1,5,7,8,40,41,42],[1,5,40,41,42],[1,5,40,41,42],[5,73,74,75],[5,73,74,75,76],[5,9,10,73,74,75],[5,73,74,75],[5,73,74,75],[5],[2,3]]
theorem f_ze.does (a0 : Value) (h : exec prog W tab 102 f_ze.live (codeOf Tryz.f246) (bodyQ prog W tab [.tmp 2, .tmp 3] R) (argFr 0 [a0]) [] H) : Does prog W f_ze ⟨[a0]⟩ H R :=
 Does.of_exec tab_ok f_ze.live Tryz.func246 rfl rfl rfl (by simp) h
def f_ze.plan10 : List Nat := [0, 1, 2, 3, 4, 5, 6, 9, 10, 11, 7, 8, 12, 13]
def f_ze.last10 : List Nat := [13]
theorem f_z21.ok : Callable prog f_z21 := callable_of Tryz.func247 (by kernel_rfl) rfl
def f_z21.live : Nat → Option (List Nat) := lvs [[0,1,2],[1,2,7],[1,2,7,15],[1,7],[6]]
theorem f_z21.does (a0 a1 a2 : Value) (h : exec prog W tab 25 f_z21.live (codeOf Tryz.f247) (bodyQ prog W tab [.tmp 6] R) (argFr 0 [a0, a1, a2]) [] H) : Does prog W f_z21 ⟨[a0, a1, a2]⟩ H R :=
 Does.of_exec tab_ok f_z21.live Tryz.func247 rfl rfl rfl (by simp) h
theorem f_z2a.ok : Callable prog f_z2a := callable_of Tryz.func248 (by kernel_rfl) rfl
def f_z2a.live : Nat → Option (List Nat) := lvs [[0,1,2,3,8],[0,1,2,3,8],[0,1,2,3,8],[0,1,2,3,8],[0,1,2,3,8],[0,1,2,3,8],[0,1,2,3,8,9],[0,1,2,3,8,9,34],[0,1,2,3,8,9,34,35],[0,1,2,3,8,9,10,34],[0,1,2,3,8,9,34],[0,1,2,3,8,9,34],[0,1,2,3,8,9],[0,1,2,3,8,9],[0,1,8,9],[0,1,8,9],[8],[8]]
theorem f_z2a.does (a0 a1 a2 a3 : Value) (h : exec prog W tab 62 f_z2a.live (codeOf Tryz.f248) (bodyQ prog W tab [.cell 8 49] R) (argFr 0 [a0, a1, a2, a3]) [] H) : Does prog W f_z2a ⟨[a0, a1, a2, a3]⟩ H R :=
 Does.of_exec tab_ok f_z2a.live Tryz.func248 rfl rfl rfl (by simp) h
theorem f_z2b.ok : Callable prog f_z2b := callable_of Tryz.func249 (by kernel_rfl) rfl
def f_z2b.live : Nat → Option (List Nat) := lvs [[0,1,2,3],[0,1,2,3,15],[8],[0,1,2,3,24],[8],[0,1,3,25,26],[0,1,3,25,26,27],[0,1,3,9,25,26],[0,1,3,25,26],[0,1,3,25,26],[8]]
theorem f_z2b.does (a0 a1 a2 a3 : Value) (h : exec prog W tab 40 f_z2b.live (codeOf Tryz.f249) (bodyQ prog W tab [.tmp 8] R) (argFr 0 [a0, a1, a2, a3]) [] H) : Does prog W f_z2b ⟨[a0, a1, a2, a3]⟩ H R :=
 Does.of_exec tab_ok f_z2b.live Tryz.func249 rfl rfl rfl (by simp) h
theorem f_z2w.ok : Callable prog f_z2w := callable_of Tryz.func286 (by kernel_rfl) rfl
def f_z2w.live : Nat → Option (List Nat) := lvs [[0,1,3],[0,1,3,8],[0,1,3],[0,1,3,18]]
theorem f_z2w.does (a0 a1 : Value) (h : exec prog W tab 19 f_z2w.live (codeOf Tryz.f286) (bodyQ prog W tab [] R) (argFr 0 [a0, a1]) [] H) : Does prog W f_z2w ⟨[a0, a1]⟩ H R :=
 Does.of_exec tab_ok f_z2w.live Tryz.func286 rfl rfl rfl (by simp) h
theorem f_z3j.ok : Callable prog f_z3j := callable_of Tryz.func287 (by kernel_rfl) rfl
def f_z3j.live : Nat → Option (List Nat) := lvs [[0],[2]]
theorem f_z3j.does (a0 : Value) (h : exec prog W tab 7 f_z3j.live (codeOf Tryz.f287) (bodyQ prog W tab [.tmp 2] R) (argFr 0 [a0]) [] H) : Does prog W f_z3j ⟨[a0]⟩ H R :=
 Does.of_exec tab_ok f_z3j.live Tryz.func287 rfl rfl rfl (by simp) h
theorem f_z1e.ok : Callable prog f_z1e := callable_of Tryz.func288 (by kernel_rfl) rfl
def f_z1e.live : Nat → Option (List Nat) := lvs [[0,1],[0,1,12],[4],[0,1,5,6,7],[0,5,6,7,25],[0,5,6,7],[0,5,6,7,27],[],[4],[5],[4]]
theorem f_z1e.does (a0 a1 : Value) (h : exec prog W tab 41 f_z1e.live (codeOf Tryz.f288) (bodyQ prog W tab [.tmp 4] R) (argFr 0 [a0, a1]) [] H) : Does prog W f_z1e ⟨[a0, a1]⟩ H R :=
 Does.of_exec tab_ok f_z1e.live Tryz.func288 rfl rfl rfl (by simp) h
theorem f_zi.ok : Callable prog f_zi := callable_of Tryz.func289 (by kernel_rfl) rfl
def f_zi.live : Nat → Option (List Nat) := lvs [[0],[0,8],[2,3],[2,3]]
theorem f_zi.does (a0 : Value) (h : exec prog W tab 17 f_zi.live (codeOf Tryz.f289) (bodyQ prog W tab [.tmp 2, .tmp 3] R) (argFr 0 [a0]) [] H) : Does prog W f_zi ⟨[a0]⟩ H R :=
 Does.of_exec tab_ok f_zi.live Tryz.func289 rfl rfl rfl (by simp) h
def f_zi.plan3 : List Nat := [0, 1, 2, 3, 4, 5, 6, 7, 8, 9]
def f_zi.last3 : List Nat := [9]
theorem f_z3u.ok : Callable prog f_z3u := callable_of Tryz.func290 (by kernel_rfl) rfl
def f_z3u.live : Nat → Option (List Nat) := lvs [[0],[3],[2]]
theorem f_z3u.does (a0 : Value) (h : exec prog W tab 14 f_z3u.live (codeOf Tryz.f290) (bodyQ prog W tab [.tmp 2] R) (argFr 0 [a0]) [] H) : Does prog W f_z3u ⟨[a0]⟩ H R :=
 Does.of_exec tab_ok f_z3u.live Tryz.func290 rfl rfl rfl (by simp) h
theorem f_zs.ok : Callable prog f_zs := callable_of Tryz.func291 (by kernel_rfl) rfl
def f_zs.live : Nat → Option (List Nat) := lvs [[0,18],[]]
theorem f_zs.does (a0 : Value) (h : exec prog W tab 22 f_zs.live (codeOf Tryz.f291) (bodyQ prog W tab [] R) (argFr 0 [a0]) [] H) : Does prog W f_zs ⟨[a0]⟩ H R :=
 Does.of_exec tab_ok f_zs.live Tryz.func291 rfl rfl rfl (by simp) h
def f_zs.plan0 : List Nat := [0, 1, 2, 3, 4, 5, 6, 7, 8, 9, 10, 11, 12, 13, 14, 15, 16]
def f_zs.last0 : List Nat := [15, 16]
theorem f_z3v.ok : Callable prog f_z3v := callable_of Tryz.func292 (by kernel_rfl) rfl
def f_z3v.live : Nat → Option (List Nat) := lvs [[0],[2]]
theorem f_z3v.does (a0 : Value) (h : exec prog W tab 5 f_z3v.live (codeOf Tryz.f292) (bodyQ prog W tab [.tmp 2] R) (argFr 0 [a0]) [] H) : Does prog W f_z3v ⟨[a0]⟩ H R :=
 Does.of_exec tab_ok f_z3v.live Tryz.func292 rfl rfl rfl (by simp) h
theorem f_z2x.ok : Callable prog f_z2x := callable_of Tryz.func293 (by kernel_rfl) rfl
def f_z2x.live : Nat → Option (List Nat) := lvs [[0],[0,4],[2],[2]]
theorem f_z2x.does (a0 : Value) (h : exec prog W tab 8 f_z2x.live (codeOf Tryz.f293) (bodyQ prog W tab [.tmp 2] R) (argFr 0 [a0]) [] H) : Does prog W f_z2x ⟨[a0]⟩ H R :=
 Does.of_exec tab_ok f_z2x.live Tryz.func293 rfl rfl rfl (by simp) h
theorem f_z17.ok : Callable prog f_z17 := callable_of Tryz.func294 (by kernel_rfl) rfl
def f_z17.live : Nat → Option (List Nat) := lvs [[1],[1,3],[2],[1,8],[2],[1,19],[2],[1,30],[2],[2]]
theorem f_z17.does (a0 : Value) (h : exec prog W tab 46 f_z17.live (codeOf Tryz.f294) (bodyQ prog W tab [.tmp 2] R) (argFr 0 [a0]) [] H) : Does prog W f_z17 ⟨[a0]⟩ H R :=
 Does.of_exec tab_ok f_z17.live Tryz.func294 rfl rfl rfl (by simp) h
def f_z17.plan7 : List Nat := [0, 1, 2, 3, 4, 5, 6, 7, 8, 9, 10, 11, 12, 13]
def f_z17.last7 : List Nat := [11, 12, 13]
theorem f_z2c.ok : Callable prog f_z2c := callable_of Tryz.func295 (by kernel_rfl) rfl
def f_z2c.live : Nat → Option (List Nat) := lvs [[1],[2]]
theorem f_z2c.does (a0 : Value) (h : exec prog W tab 10 f_z2c.live (codeOf Tryz.f295) (bodyQ prog W tab [.tmp 2] R) (argFr 0 [a0]) [] H) : Does prog W f_z2c ⟨[a0]⟩ H R :=
 Does.of_exec tab_ok f_z2c.live Tryz.func295 rfl rfl rfl (by simp) h
theorem f_z1t.ok : Callable prog f_z1t := callable_of Tryz.func296 (by kernel_rfl) rfl
def f_z1t.live : Nat → Option (List Nat) := lvs [[0,1,2,10,11,12],[0,1,2,10,11,12,13],[0,1,2,8,9,10,11,12],[0,1,2,8,10,11,12],[0,1,2,10,11,12],[0,1,2,10,11,12]]
theorem f_z1t.does (a0 a1 a2 a3 : Value) (h : exec prog W tab 32 f_z1t.live (codeOf Tryz.f296) (bodyQ prog W tab [] R) (argFr 0 [a0, a1, a2, a3]) [] H) : Does prog W f_z1t ⟨[a0, a1, a2, a3]⟩ H R :=
 Does.of_exec tab_ok f_z1t.live Tryz.func296 rfl rfl rfl (by simp) h
noncomputable abbrev f_za.def : Func := Tryz.f297
theorem f_za.fn : prog.funcs[f_za]? = some f_za.def := Tryz.func297
theorem f_za.ok : Callable prog f_za := callable_of Tryz.func297 (by kernel_rfl) rfl
def f_za.live : Nat → Option (List Nat) := lvs [[]]
theorem f_za.does (a0 : Value) (h : exec prog W tab 3 f_za.live (codeOf Tryz.f297) (bodyQ prog W tab [] R) (argFr 0 [a0]) [] H) : Does prog W f_za ⟨[a0]⟩ H R :=
 Does.of_exec tab_ok f_za.live Tryz.func297 rfl rfl rfl (by simp) h
theorem f_z18.ok : Callable prog f_z18 := callable_of Tryz.func338 (by kernel_rfl) rfl
def f_z18.live : Nat → Option (List Nat) := lvs [[0],[0,5],[0,5,16,17,18],[0,5,16,17,18,19],[0,5,6,7,16,17,18],[0,5,6,7,16,17,18,24],[2,3,4],[0,5,6,7,16,17,18],[0,5,6,7,16,17,18,34],[5,6,48],[2,3,4],[2,3,4],[0,5,16,17,18],[63],[2,3,4],[2,3,4]]
theorem f_z18.does (a0 : Value) (h : exec prog W tab 64 f_z18.live (codeOf Tryz.f338) (bodyQ prog W tab [.tmp 2, .tmp 3, .tmp 4] R) (argFr 0 [a0]) [] H) : Does prog W f_z18 ⟨[a0]⟩ H R :=
 Does.of_exec tab_ok f_z18.live Tryz.func338 rfl rfl rfl (by simp) h
def f_z18.plan2 : List Nat := [0, 1, 2, 3, 4, 5, 6, 7, 8, 9, 10]
def f_z18.last2 : List Nat := []
def f_z18.plan13 : List Nat := [0, 1, 2, 3, 4, 5, 6, 7, 8, 9, 10]
def f_z18.last13 : List Nat := [9, 10]
theorem f_z3k.ok : Callable prog f_z3k := callable_of Tryz.func371 (by kernel_rfl) rfl
def f_z3k.live : Nat → Option (List Nat) := lvs [[0],[2]]
theorem f_z3k.does (a0 : Value) (h : exec prog W tab 7 f_z3k.live (codeOf Tryz.f371) (bodyQ prog W tab [.tmp 2] R) (argFr 0 [a0]) [] H) : Does prog W f_z3k ⟨[a0]⟩ H R :=
 Does.of_exec tab_ok f_z3k.live Tryz.func371 rfl rfl rfl (by simp) h
end Go.Proofs.YtgcknlpkhhpkjaaGreatDoor
