/- The numbers of the functions and types by name, the type table, the live slots, the plans of the regions that draw: written by a program (tools/gen.py). No condition. -/
import Derived.Test.YtbcedpankkdfoaaGreatDoorProg
import Derived.KernelRfl
import Derived.Test.YtbcedpankkdfoaaGreatDoorPart7
set_option linter.unusedVariables false
set_option linter.unusedSimpArgs false
namespace Go.Proofs.YtbcedpankkdfoaaGreatDoor
open Go Go.SL
abbrev f_z15:Nat:=14
abbrev f_z46:Nat:=15
abbrev f_z4g:Nat:=16
abbrev f_z1u:Nat:=17
abbrev f_z2i:Nat:=18
abbrev f_z32:Nat:=19
abbrev f_z4h:Nat:=20
abbrev f_z24:Nat:=21
abbrev f_z25:Nat:=22
abbrev f_z1n:Nat:=23
abbrev f_zc:Nat:=24
abbrev f_z47:Nat:=25
abbrev f_z4i:Nat:=26
abbrev f_z48:Nat:=27
abbrev f_z2j:Nat:=28
abbrev f_z1o:Nat:=29
abbrev f_z4j:Nat:=30
abbrev f_z1v:Nat:=31
abbrev f_z4k:Nat:=32
abbrev f_z2k:Nat:=36
abbrev f_z2o:Nat:=37
abbrev f_z49:Nat:=38
abbrev f_z4l:Nat:=39
abbrev f_z4m:Nat:=40
abbrev f_z4n:Nat:=41
abbrev f_z4o:Nat:=43
abbrev f_z1w:Nat:=48
abbrev f_z3p:Nat:=61
abbrev f_z2p:Nat:=62
abbrev f_z2q:Nat:=63
abbrev f_z9:Nat:=64
abbrev f_zn:Nat:=65
abbrev f_z3:Nat:=66
abbrev f_z1b:Nat:=67
abbrev f_z1c:Nat:=68
abbrev f_z1d:Nat:=69
abbrev f_z2:Nat:=70
abbrev f_z33:Nat:=71
abbrev f_z26:Nat:=72
abbrev f_z34:Nat:=73
abbrev f_log_Open:Nat:=74
abbrev f_z27:Nat:=75
abbrev f_za:Nat:=76
abbrev f_z1p:Nat:=77
abbrev f_z35:Nat:=78
abbrev f_z4a:Nat:=79
abbrev f_z3q:Nat:=80
abbrev f_master_Log:Nat:=81
abbrev f_z4p:Nat:=82
abbrev f_z4q:Nat:=83
abbrev f_z4r:Nat:=85
abbrev f_z4:Nat:=86
abbrev f_zo:Nat:=87
abbrev f_z4s:Nat:=88
abbrev f_z3r:Nat:=89
abbrev f_z36:Nat:=90
abbrev f_z3s:Nat:=91
abbrev f_z37:Nat:=92
abbrev f_zt:Nat:=93
abbrev f_z1x:Nat:=94
abbrev f_zz:Nat:=95
abbrev f_zh:Nat:=96
abbrev f_z1e:Nat:=97
abbrev f_twin_get:Nat:=98
abbrev f_page_in:Nat:=99
abbrev f_zf:Nat:=100
abbrev f_zu:Nat:=101
abbrev f_zv:Nat:=102
abbrev f_zi:Nat:=103
abbrev f_zp:Nat:=104
abbrev f_z16:Nat:=105
abbrev f_z1f:Nat:=106
abbrev f_z3t:Nat:=107
abbrev f_z3u:Nat:=108
abbrev f_z17:Nat:=109
abbrev f_z1y:Nat:=110
abbrev f_z4t:Nat:=117
abbrev f_z4u:Nat:=129
abbrev f_z1z:Nat:=134
abbrev f_z38:Nat:=136
abbrev f_zj:Nat:=137
abbrev f_z4v:Nat:=138
abbrev f_z39:Nat:=139
abbrev f_z4w:Nat:=140
abbrev f_z2r:Nat:=141
abbrev f_z28:Nat:=142
abbrev f_z4x:Nat:=143
abbrev f_z4y:Nat:=144
abbrev f_z20:Nat:=145
abbrev f_txns_New:Nat:=168
abbrev f_zb:Nat:=169
abbrev f_z29:Nat:=170
abbrev f_z3v:Nat:=171
abbrev f_z0:Nat:=172
abbrev f_z3a:Nat:=173
abbrev f_zq:Nat:=174
abbrev f_z2s:Nat:=175
abbrev f_z2t:Nat:=176
abbrev f_z1q:Nat:=177
abbrev f_z1g:Nat:=178
abbrev f_z3w:Nat:=179
abbrev f_z2l:Nat:=180
abbrev f_z10:Nat:=181
abbrev f_zw:Nat:=182
abbrev f_z1h:Nat:=183
abbrev f_zx:Nat:=184
abbrev f_zy:Nat:=185
abbrev f_z21:Nat:=186
abbrev f_z2u:Nat:=187
abbrev f_z1i:Nat:=188
abbrev f_z22:Nat:=189
abbrev f_z2a:Nat:=190
abbrev f_log_own:Nat:=191
abbrev f_z7:Nat:=192
abbrev f_z2b:Nat:=194
abbrev f_z1j:Nat:=195
abbrev f_z11:Nat:=196
abbrev f_log_laid:Nat:=197
abbrev f_z3b:Nat:=201
abbrev f_z1r:Nat:=202
abbrev f_z3x:Nat:=203
abbrev f_z3c:Nat:=204
abbrev f_z2v:Nat:=205
abbrev f_z4d:Nat:=208
abbrev f_z2c:Nat:=209
abbrev f_zm:Nat:=210
abbrev f_z1s:Nat:=211
abbrev f_z3d:Nat:=212
abbrev f_z3e:Nat:=213
abbrev f_z2w:Nat:=233
abbrev f_z2m:Nat:=234
abbrev f_z3f:Nat:=235
abbrev f_z4z:Nat:=240
abbrev f_txns_in:Nat:=250
abbrev f_z2x:Nat:=251
abbrev f_z3y:Nat:=252
abbrev f_z5:Nat:=253
abbrev f_z3g:Nat:=254
abbrev f_z2d:Nat:=255
abbrev f_z3z:Nat:=257
abbrev f_z2y:Nat:=259
abbrev f_zr:Nat:=260
abbrev f_z3h:Nat:=261
abbrev f_z40:Nat:=262
abbrev f_ze:Nat:=263
abbrev f_z2n:Nat:=264
abbrev f_z2z:Nat:=265
abbrev f_z41:Nat:=266
abbrev f_z1k:Nat:=267
abbrev f_z6:Nat:=268
abbrev f_z42:Nat:=269
abbrev f_z43:Nat:=270
abbrev f_z3i:Nat:=271
abbrev f_z3j:Nat:=272
abbrev f_z3k:Nat:=273
abbrev f_zg:Nat:=274
abbrev f_z2e:Nat:=276
abbrev f_z2f:Nat:=277
abbrev f_z4e:Nat:=313
abbrev f_z12:Nat:=314
abbrev f_z3l:Nat:=317
abbrev f_z3m:Nat:=318
abbrev f_z4f:Nat:=320
abbrev f_z18:Nat:=321
abbrev f_z19:Nat:=322
abbrev f_z30:Nat:=323
abbrev f_z3n:Nat:=324
abbrev f_z1a:Nat:=325
abbrev f_zk:Nat:=326
abbrev f_z44:Nat:=327
abbrev f_zs:Nat:=328
abbrev f_z45:Nat:=329
abbrev f_z31:Nat:=330
abbrev f_z13:Nat:=331
abbrev f_z2g:Nat:=332
abbrev f_z1t:Nat:=333
abbrev f_zd:Nat:=334
abbrev f_z14:Nat:=370
abbrev f_z3o:Nat:=401
abbrev f_math_bits_Add64:Nat:=379
abbrev f_math_bits_Sub64:Nat:=380
abbrev t_func:Nat:=1
abbrev t_int64:Nat:=2
abbrev t_int:Nat:=3
abbrev t_bool:Nat:=4
abbrev t_uint8:Nat:=5
abbrev t_string:Nat:=9
abbrev t_P_abi_Type:Nat:=17
abbrev t_interface:Nat:=20
abbrev t_api_Shape:Nat:=24
abbrev t_P_quotalaw09_Store:Nat:=26
abbrev t_S_api_Counter:Nat:=29
abbrev t_S_api_Group:Nat:=30
abbrev t_quotaref07_Page:Nat:=32
abbrev t_S_uint64:Nat:=33
abbrev t_api_Loss:Nat:=35
abbrev t_quotalaw09_Op:Nat:=37
abbrev t_z50:Nat:=38
abbrev t_z2h:Nat:=39
abbrev t_P_pool_Pool:Nat:=40
abbrev t_S_S_quotaref07_Page:Nat:=41
abbrev t_S_int:Nat:=42
abbrev t_quotalaw09_Store:Nat:=44
abbrev t_z1:Nat:=46
abbrev t_error:Nat:=49
abbrev t_S_uint8:Nat:=54
abbrev t_page_Page:Nat:=57
abbrev t_S_api_Dirty:Nat:=64
abbrev t_S_quotaref07_Page:Nat:=67
abbrev t_S_S_api_Dirty:Nat:=68
abbrev t_api_Range:Nat:=77
abbrev t_api_Counter:Nat:=79
abbrev t_api_Group:Nat:=81
abbrev t_z1l:Nat:=83
abbrev t_S_api_Record:Nat:=101
abbrev t_api_Kind:Nat:=119
abbrev t_api_Slot:Nat:=121
abbrev t_S_api_Live:Nat:=122
abbrev t_api_Points:Nat:=124
abbrev t_z1m:Nat:=126
abbrev t_S_quotalaw16_Op:Nat:=141
abbrev t_P_txns_Table:Nat:=142
abbrev t_quotalaw16_Op:Nat:=147
abbrev t_P_api_Points:Nat:=148
abbrev t_z23:Nat:=158
abbrev t_P_pool_frame:Nat:=171
abbrev t_M_int_P_pool_frame:Nat:=172
abbrev t_pool_Pool:Nat:=174
abbrev t_pool_frame:Nat:=176
abbrev t_zl:Nat:=181
abbrev t_uint64:Nat:=191
abbrev t_uint32:Nat:=194
abbrev t_iter_Seq_int:Nat:=200
abbrev t_S_api_Pending:Nat:=218
abbrev t_z4b:Nat:=221
abbrev t_z4c:Nat:=223
abbrev t_funcuint8_bool:Nat:=226
abbrev t_S_S_uint8:Nat:=236
abbrev t_log_Log:Nat:=238
abbrev t_z8:Nat:=253
abbrev t_api_Fault:Nat:=255
abbrev t_M_int_api_Live:Nat:=265
abbrev t_txns_Table:Nat:=267
abbrev t_unsafe_Pointer:Nat:=285
abbrev t_reflectlite_flag:Nat:=286
abbrev t_reflectlite_Value:Nat:=288
abbrev t_reflectlite_Type:Nat:=291
abbrev t_abi_Kind:Nat:=293
abbrev t_twin_refusal:Nat:=298
abbrev t_M_int_int:Nat:=345
abbrev t_funcapi_Live_bool:Nat:=348
abbrev t_funcapi_Live:Nat:=349
abbrev t_txns_move:Nat:=351
abbrev t_P_api_Live:Nat:=355
abbrev t_log_refusal:Nat:=359
abbrev t_P_field_Writer:Nat:=366
abbrev t_S_P_int:Nat:=369
abbrev t_S_P_int64:Nat:=370
abbrev t_P_api_Record:Nat:=373
abbrev t_P_int:Nat:=374
abbrev t_P_int64:Nat:=375
abbrev t_z51:Nat:=390
abbrev t_interface_Unwrap_error:Nat:=393
abbrev t_interface_Unwrap_S_error:Nat:=395
abbrev t_S_error:Nat:=396
abbrev t_16_uint32:Nat:=399
abbrev t_P_field_Reader:Nat:=434
abbrev t_field_Writer:Nat:=440
abbrev t_field_Reader:Nat:=474
abbrev g_page_headSizes:Nat:=0
abbrev g_page_groupSizes:Nat:=1
abbrev g_page_counterSizes:Nat:=2
abbrev g_errors_errorType:Nat:=3
abbrev g_field_nibbles:Nat:=4
noncomputable abbrev prog:Program:=Tryz.prog
def findT:List (Nat × TRow) → Nat → Option TRow
 | [],_=>none
 | (k,r) :: l,t=>match Nat.beq k t with
  | true=>some r
  | false=>findT l t
def rows:List (Nat × TRow):=[
 (3,⟨(.int .i64),[(.int .i64 0)],false,1,8⟩),
 (126, ⟨(.struct ⟨[⟨"LSN", 3, 0, false, "", "", 0⟩, ⟨"Kind", 119, 1, false, "", "", 8⟩, ⟨"Tx", 3, 2, false, "", "", 16⟩, ⟨"Prev", 3, 3, false, "", "", 24⟩, ⟨"Where", 121, 4, false, "", "", 32⟩, ⟨"Sums", 121, 6, false, "", "", 48⟩, ⟨"Delta", 2, 8, false, "", "", 64⟩, ⟨"Counter", 79, 9, false, "", "", 72⟩, ⟨"Points", 124, 14, false, "", "", 112⟩]⟩), [(.int .i64 0), (.int .i64 0), (.int .i64 0), (.int .i64 0), (.int .i64 0), (.int .i64 0), (.int .i64 0), (.int .i64 0), (.int .i64 0), (.int .i64 0), (.int .i64 0), (.int .i64 0), (.int .i64 0), (.int .i64 0), (.slice none 0 0), (.slice none 0 0), (.int .i64 0)], true, 17, 168⟩),
 (54,⟨(.slice 5),[(.slice none 0 0)],false,1,24⟩),
 (57, ⟨(.struct ⟨[⟨"Number", 3, 0, false, "", "", 0⟩, ⟨"LSN", 3, 1, false, "", "", 8⟩, ⟨"Counters", 29, 2, false, "", "", 16⟩, ⟨"Groups", 30, 3, false, "", "", 40⟩]⟩), [(.int .i64 0), (.int .i64 0), (.slice none 0 0), (.slice none 0 0)], true, 4, 64⟩),
 (46,⟨(.int .i64),[(.int .i64 0)],false,1,8⟩),
 (191,⟨(.int .u64),[(.int .u64 0)],false,1,8⟩),
 (4,⟨.bool,[(.bool false)],false,1,1⟩),
 (124, ⟨(.struct ⟨[⟨"Live", 122, 0, false, "", "", 0⟩, ⟨"Dirty", 64, 1, false, "", "", 24⟩, ⟨"Next", 3, 2, false, "", "", 48⟩]⟩), [(.slice none 0 0), (.slice none 0 0), (.int .i64 0)], true, 3, 56⟩),
 (38,⟨(.pointer 223),[(.pointer none)],false,1,8⟩),
 (64,⟨(.slice 83),[(.slice none 0 0)],false,1,24⟩),
 (49, ⟨(.interface #[("Error", 491)]), [.nilIface], false, 1, 16⟩),
 (158, ⟨(.struct ⟨[⟨"Tx", 3, 0, false, "", "", 0⟩, ⟨"Last", 3, 1, false, "", "", 8⟩, ⟨"Committed", 4, 2, false, "", "", 16⟩, ⟨"Undoing", 4, 3, false, "", "", 17⟩]⟩), [(.int .i64 0), (.int .i64 0), (.bool false), (.bool false)], true, 4, 24⟩),
 (24, ⟨(.struct ⟨[⟨"Pages", 3, 0, false, "", "", 0⟩, ⟨"Log", 3, 1, false, "", "", 8⟩, ⟨"Frames", 3, 2, false, "", "", 16⟩]⟩), [(.int .i64 0), (.int .i64 0), (.int .i64 0)], true, 3, 24⟩),
 (122,⟨(.slice 158),[(.slice none 0 0)],false,1,24⟩),
 (119,⟨(.int .i64),[(.int .i64 0)],false,1,8⟩),
 (79, ⟨(.struct ⟨[⟨"ID", 3, 0, false, "", "", 0⟩, ⟨"Group", 3, 1, false, "", "", 8⟩, ⟨"Bounds", 77, 2, false, "", "", 16⟩, ⟨"Value", 2, 4, false, "", "", 32⟩]⟩), [(.int .i64 0), (.int .i64 0), (.int .i64 0), (.int .i64 0), (.int .i64 0)], true, 5, 40⟩),
 (83, ⟨(.struct ⟨[⟨"Page", 3, 0, false, "", "", 0⟩, ⟨"Since", 3, 1, false, "", "", 8⟩]⟩), [(.int .i64 0), (.int .i64 0)], true, 2, 16⟩),
 (40,⟨(.pointer 174),[(.pointer none)],false,1,8⟩),
 (5,⟨(.int .u8),[(.int .u8 0)],false,1,1⟩),
 (39,⟨(.pointer 238),[(.pointer none)],false,1,8⟩),
 (30,⟨(.slice 81),[(.slice none 0 0)],false,1,24⟩),
 (2,⟨(.int .i64),[(.int .i64 0)],false,1,8⟩),
 (121, ⟨(.struct ⟨[⟨"Page", 3, 0, false, "", "", 0⟩, ⟨"Index", 3, 1, false, "", "", 8⟩]⟩), [(.int .i64 0), (.int .i64 0)], true, 2, 16⟩),
 (29,⟨(.slice 79),[(.slice none 0 0)],false,1,24⟩),
 (238, ⟨(.struct ⟨[⟨"d", 38, 0, false, "", "quota/log", 0⟩, ⟨"first", 3, 1, false, "", "quota/log", 8⟩, ⟨"count", 3, 2, false, "", "quota/log", 16⟩, ⟨"records", 101, 3, false, "", "quota/log", 24⟩, ⟨"bytes", 236, 4, false, "", "quota/log", 48⟩, ⟨"forced", 3, 5, false, "", "quota/log", 72⟩, ⟨"err", 49, 6, false, "", "quota/log", 80⟩]⟩), [(.pointer none), (.int .i64 0), (.int .i64 0), (.slice none 0 0), (.slice none 0 0), (.int .i64 0), .nilIface], true, 7, 96⟩),
 (223, ⟨(.struct ⟨[⟨"image", 54, 0, false, "", "quota/sectors", 0⟩, ⟨"pending", 218, 1, false, "", "quota/sectors", 24⟩, ⟨"step", 3, 2, false, "", "quota/sectors", 48⟩, ⟨"loss", 35, 3, false, "", "quota/sectors", 56⟩, ⟨"down", 4, 6, false, "", "quota/sectors", 96⟩, ⟨"calls", 3, 7, false, "", "quota/sectors", 104⟩]⟩), [(.slice none 0 0), (.slice none 0 0), (.int .i64 0), (.slice none 0 0), (.int .i64 0), (.int .i64 0), (.bool false), (.int .i64 0)], true, 8, 112⟩),
 (32, ⟨(.struct ⟨[⟨"Number", 3, 0, false, "", "", 0⟩, ⟨"LSN", 3, 1, false, "", "", 8⟩, ⟨"Counters", 29, 2, false, "", "", 16⟩, ⟨"Groups", 30, 3, false, "", "", 40⟩]⟩), [(.int .i64 0), (.int .i64 0), (.slice none 0 0), (.slice none 0 0)], true, 4, 64⟩),
 (33,⟨(.slice 191),[(.slice none 0 0)],false,1,24⟩),
 (42,⟨(.slice 3),[(.slice none 0 0)],false,1,24⟩),
 (172,⟨(.map 3 171),[(.map none)],false,1,8⟩),
 (174, ⟨(.struct ⟨[⟨"d", 38, 0, false, "", "quota/pool", 0⟩, ⟨"l", 39, 1, false, "", "quota/pool", 8⟩, ⟨"shape", 24, 2, false, "", "quota/pool", 16⟩, ⟨"held", 172, 5, false, "", "quota/pool", 40⟩, ⟨"clock", 3, 6, false, "", "quota/pool", 48⟩, ⟨"ended", 4, 7, false, "", "quota/pool", 56⟩]⟩), [(.pointer none), (.pointer none), (.int .i64 0), (.int .i64 0), (.int .i64 0), (.map none), (.int .i64 0), (.bool false)], true, 8, 64⟩),
 (236,⟨(.slice 54),[(.slice none 0 0)],false,1,24⟩),
 (218,⟨(.slice 221),[(.slice none 0 0)],false,1,24⟩),
 (101,⟨(.slice 126),[(.slice none 0 0)],false,1,24⟩),
 (176, ⟨(.struct ⟨[⟨"state", 57, 0, false, "", "quota/pool", 0⟩, ⟨"pins", 3, 4, false, "", "quota/pool", 64⟩, ⟨"dirty", 4, 5, false, "", "quota/pool", 72⟩, ⟨"since", 3, 6, false, "", "quota/pool", 80⟩, ⟨"used", 3, 7, false, "", "quota/pool", 88⟩]⟩), [(.int .i64 0), (.int .i64 0), (.slice none 0 0), (.slice none 0 0), (.int .i64 0), (.bool false), (.int .i64 0), (.int .i64 0)], true, 8, 96⟩),
 (221, ⟨(.struct ⟨[⟨"Sector", 3, 0, false, "", "", 0⟩, ⟨"Bytes", 54, 1, false, "", "", 8⟩]⟩), [(.int .i64 0), (.slice none 0 0)], true, 2, 32⟩),
 (35, ⟨(.struct ⟨[⟨"Keep", 33, 0, false, "", "", 0⟩, ⟨"Torn", 3, 1, false, "", "", 24⟩, ⟨"Offset", 3, 2, false, "", "", 32⟩]⟩), [(.slice none 0 0), (.int .i64 0), (.int .i64 0)], true, 3, 40⟩),
 (44, ⟨(.struct ⟨[⟨"s", 24, 0, false, "", "quota/quotalaw09", 0⟩, ⟨"d", 38, 3, false, "", "quota/quotalaw09", 24⟩, ⟨"l", 39, 4, false, "", "quota/quotalaw09", 32⟩, ⟨"q", 40, 5, false, "", "quota/quotalaw09", 40⟩, ⟨"had", 41, 6, false, "", "quota/quotalaw09", 48⟩, ⟨"done", 42, 7, false, "", "quota/quotalaw09", 72⟩]⟩), [(.int .i64 0), (.int .i64 0), (.int .i64 0), (.pointer none), (.pointer none), (.pointer none), (.slice none 0 0), (.slice none 0 0)], true, 8, 96⟩),
 (9,⟨.string,[(.string ⟨#[]⟩)],false,1,16⟩),
 (265,⟨(.map 3 158),[(.map none)],false,1,8⟩),
 (351, ⟨(.struct ⟨[⟨"may", 348, 0, false, "", "quota/txns", 0⟩, ⟨"then", 349, 1, false, "", "quota/txns", 8⟩]⟩), [.nilFunc, .nilFunc], true, 2, 16⟩),
 (474, ⟨(.struct ⟨[⟨"b", 54, 0, false, "", "quota/field", 0⟩, ⟨"at", 3, 1, false, "", "quota/field", 24⟩, ⟨"err", 46, 2, false, "", "quota/field", 32⟩]⟩), [(.slice none 0 0), (.int .i64 0), (.int .i64 0)], true, 3, 40⟩),
 (81, ⟨(.struct ⟨[⟨"ID", 3, 0, false, "", "", 0⟩, ⟨"Sum", 2, 1, false, "", "", 8⟩]⟩), [(.int .i64 0), (.int .i64 0)], true, 2, 16⟩),
 (20,⟨(.interface #[]),[.nilIface],false,1,16⟩),
 (267, ⟨(.struct ⟨[⟨"live", 265, 0, false, "", "quota/txns", 0⟩, ⟨"next", 3, 1, false, "", "quota/txns", 8⟩]⟩), [(.map none), (.int .i64 0)], true, 2, 16⟩),
 (288, ⟨(.struct ⟨[⟨"typ_", 17, 0, false, "", "internal/reflectlite", 0⟩, ⟨"ptr", 285, 1, false, "", "internal/reflectlite", 8⟩, ⟨"flag", 286, 2, true, "", "internal/reflectlite", 16⟩]⟩), [(.pointer none), (.pointer none), (.int .u64 0)], true, 3, 24⟩),
 (434,⟨(.pointer 474),[(.pointer none)],false,1,8⟩),
 (255, ⟨(.struct ⟨[⟨"Call", 9, 0, false, "", "", 0⟩, ⟨"At", 3, 1, false, "", "", 16⟩, ⟨"Err", 49, 2, false, "", "", 24⟩]⟩), [(.string ⟨#[]⟩), (.int .i64 0), .nilIface], true, 3, 40⟩),
 (194,⟨(.int .u32),[(.int .u32 0)],false,1,4⟩),
 (369,⟨(.slice 374),[(.slice none 0 0)],false,1,24⟩),
 (142,⟨(.pointer 267),[(.pointer none)],false,1,8⟩),
 (366,⟨(.pointer 440),[(.pointer none)],false,1,8⟩),
 (77, ⟨(.struct ⟨[⟨"Lo", 2, 0, false, "", "", 0⟩, ⟨"Hi", 2, 1, false, "", "", 8⟩]⟩), [(.int .i64 0), (.int .i64 0)], true, 2, 16⟩),
 (345,⟨(.map 3 3),[(.map none)],false,1,8⟩),
 (41,⟨(.slice 67),[(.slice none 0 0)],false,1,24⟩),
 (37, ⟨(.struct ⟨[⟨"Kind", 3, 0, false, "", "", 0⟩, ⟨"N", 3, 1, false, "", "", 8⟩, ⟨"A", 3, 2, false, "", "", 16⟩, ⟨"X", 32, 3, false, "", "", 24⟩, ⟨"Raw", 4, 7, false, "", "", 88⟩, ⟨"L", 35, 8, false, "", "", 96⟩]⟩), [(.int .i64 0), (.int .i64 0), (.int .i64 0), (.int .i64 0), (.int .i64 0), (.slice none 0 0), (.slice none 0 0), (.bool false), (.slice none 0 0), (.int .i64 0), (.int .i64 0)], true, 11, 136⟩),
 (359, ⟨(.struct ⟨[⟨"at", 3, 0, false, "", "quota/log", 0⟩, ⟨"e", 46, 1, false, "", "quota/log", 8⟩]⟩), [(.int .i64 0), (.int .i64 0)], true, 2, 16⟩),
 (147, ⟨(.struct ⟨[⟨"Kind", 3, 0, false, "", "", 0⟩, ⟨"N", 3, 1, false, "", "", 8⟩]⟩), [(.int .i64 0), (.int .i64 0)], true, 2, 16⟩),
 (171,⟨(.pointer 176),[(.pointer none)],false,1,8⟩),
 (253,⟨(.pointer 255),[(.pointer none)],false,1,8⟩),
 (440, ⟨(.struct ⟨[⟨"b", 54, 0, false, "", "quota/field", 0⟩]⟩), [(.slice none 0 0)], true, 1, 24⟩),
 (26,⟨(.pointer 44),[(.pointer none)],false,1,8⟩),
 (298, ⟨(.struct ⟨[⟨"err", 46, 0, false, "", "quota/twin", 0⟩]⟩), [(.int .i64 0)], true, 1, 8⟩),
 (370,⟨(.slice 375),[(.slice none 0 0)],false,1,24⟩),
 (67,⟨(.slice 32),[(.slice none 0 0)],false,1,24⟩),
 (291, ⟨(.interface #[("AssignableTo", 295), ("Comparable", 22), ("Elem", 292), ("Implements", 295), ("Kind", 294), ("Name", 491), ("PkgPath", 491), ("Size", 505), ("String", 491), ("internal/reflectlite.common", 497), ("internal/reflectlite.uncommon", 506)]), [.nilIface], false, 1, 16⟩),
 (200,⟨(.func #[301] #[] false),[.nilFunc],false,1,8⟩),
 (226,⟨(.func #[5] #[4] false),[.nilFunc],false,1,8⟩),
 (68,⟨(.slice 64),[(.slice none 0 0)],false,1,24⟩),
 (141,⟨(.slice 147),[(.slice none 0 0)],false,1,24⟩),
 (1,⟨(.func #[] #[] false),[.nilFunc],false,1,8⟩),
 (293,⟨(.int .u8),[(.int .u8 0)],false,1,1⟩),
 (373,⟨(.pointer 126),[(.pointer none)],false,1,8⟩),
 (374,⟨(.pointer 3),[(.pointer none)],false,1,8⟩),
 (375,⟨(.pointer 2),[(.pointer none)],false,1,8⟩),
 (396,⟨(.slice 49),[(.slice none 0 0)],false,1,24⟩),
 (399,⟨(.array 16 194),[(.int .u32 0),(.int .u32 0),(.int .u32 0),(.int .u32 0),(.int .u32 0),(.int .u32 0),(.int .u32 0),(.int .u32 0),(.int .u32 0),(.int .u32 0),(.int .u32 0),(.int .u32 0),(.int .u32 0),(.int .u32 0),(.int .u32 0),(.int .u32 0)],true,16,64⟩),
 (148,⟨(.pointer 124),[(.pointer none)],false,1,8⟩),
 (181,⟨(.pointer 46),[(.pointer none)],false,1,8⟩),
 (348,⟨(.func #[158] #[4] false),[.nilFunc],false,1,8⟩),
 (349,⟨(.func #[355] #[] false),[.nilFunc],false,1,8⟩),
 (355,⟨(.pointer 158),[(.pointer none)],false,1,8⟩),
 (390, ⟨(.interface #[("As", 392)]), [.nilIface], false, 1, 16⟩),
 (393, ⟨(.interface #[("Unwrap", 394)]), [.nilIface], false, 1, 16⟩),
 (395, ⟨(.interface #[("Unwrap", 397)]), [.nilIface], false, 1, 16⟩),
 (17,⟨(.pointer 504),[(.pointer none)],false,1,8⟩),
 (285,⟨.unsafePointer,[(.pointer none)],false,1,8⟩),
 (286,⟨(.int .u64),[(.int .u64 0)],false,1,8⟩)]
def tab:Tab:=fun t=>findT rows t
def AllOk (P:Program):List (Nat × TRow) → Prop
 | []=>True
 | p :: l=>p.2.ok P p.1 ∧ AllOk P l
theorem findT_ok {P:Program}:∀ (l:List (Nat × TRow)),AllOk P l → ∀ t r,findT l t = some r → r.ok P t
 | [],_,_,_,h=>by simp [findT] at h
 | (k,r) :: l,⟨h1,h2⟩,t,r',h=>by
  simp only [findT] at h
  split at h
  ·rename_i hb;cases h;obtain rfl:=Nat.eq_of_beq_eq_true hb;exact h1
  ·exact findT_ok l h2 t r' h
theorem row3:TRow.ok prog 3 ⟨(.int .i64),[(.int .i64 0)],false,1,8⟩:=⟨Tryz.underlying3,rfl,Tryz.t3,by kernel_rfl,by kernel_rfl,by kernel_rfl,by kernel_rfl,fun _=>⟨_,rfl,rfl⟩⟩
theorem row126 : TRow.ok prog 126 ⟨(.struct ⟨[⟨"LSN", 3, 0, false, "", "", 0⟩, ⟨"Kind", 119, 1, false, "", "", 8⟩, ⟨"Tx", 3, 2, false, "", "", 16⟩, ⟨"Prev", 3, 3, false, "", "", 24⟩, ⟨"Where", 121, 4, false, "", "", 32⟩, ⟨"Sums", 121, 6, false, "", "", 48⟩, ⟨"Delta", 2, 8, false, "", "", 64⟩, ⟨"Counter", 79, 9, false, "", "", 72⟩, ⟨"Points", 124, 14, false, "", "", 112⟩]⟩), [(.int .i64 0), (.int .i64 0), (.int .i64 0), (.int .i64 0), (.int .i64 0), (.int .i64 0), (.int .i64 0), (.int .i64 0), (.int .i64 0), (.int .i64 0), (.int .i64 0), (.int .i64 0), (.int .i64 0), (.int .i64 0), (.slice none 0 0), (.slice none 0 0), (.int .i64 0)], true, 17, 168⟩ := ⟨Tryz.underlying126, rfl, Tryz.t126, by kernel_rfl, by kernel_rfl, by kernel_rfl, by kernel_rfl, fun h => by cases h⟩
theorem row54:TRow.ok prog 54 ⟨(.slice 5),[(.slice none 0 0)],false,1,24⟩:=⟨Tryz.underlying54,rfl,Tryz.t54,by kernel_rfl,by kernel_rfl,by kernel_rfl,by kernel_rfl,fun _=>⟨_,rfl,rfl⟩⟩
theorem row57 : TRow.ok prog 57 ⟨(.struct ⟨[⟨"Number", 3, 0, false, "", "", 0⟩, ⟨"LSN", 3, 1, false, "", "", 8⟩, ⟨"Counters", 29, 2, false, "", "", 16⟩, ⟨"Groups", 30, 3, false, "", "", 40⟩]⟩), [(.int .i64 0), (.int .i64 0), (.slice none 0 0), (.slice none 0 0)], true, 4, 64⟩ := ⟨Tryz.underlying57, rfl, Tryz.t57, by kernel_rfl, by kernel_rfl, by kernel_rfl, by kernel_rfl, fun h => by cases h⟩
theorem row46:TRow.ok prog 46 ⟨(.int .i64),[(.int .i64 0)],false,1,8⟩:=⟨Tryz.underlying46,rfl,Tryz.t46,by kernel_rfl,by kernel_rfl,by kernel_rfl,by kernel_rfl,fun _=>⟨_,rfl,rfl⟩⟩
theorem row191:TRow.ok prog 191 ⟨(.int .u64),[(.int .u64 0)],false,1,8⟩:=⟨Tryz.underlying191,rfl,Tryz.t191,by kernel_rfl,by kernel_rfl,by kernel_rfl,by kernel_rfl,fun _=>⟨_,rfl,rfl⟩⟩
theorem row4:TRow.ok prog 4 ⟨.bool,[(.bool false)],false,1,1⟩:=⟨Tryz.underlying4,rfl,Tryz.t4,by kernel_rfl,by kernel_rfl,by kernel_rfl,by kernel_rfl,fun _=>⟨_,rfl,rfl⟩⟩
theorem row124 : TRow.ok prog 124 ⟨(.struct ⟨[⟨"Live", 122, 0, false, "", "", 0⟩, ⟨"Dirty", 64, 1, false, "", "", 24⟩, ⟨"Next", 3, 2, false, "", "", 48⟩]⟩), [(.slice none 0 0), (.slice none 0 0), (.int .i64 0)], true, 3, 56⟩ := ⟨Tryz.underlying124, rfl, Tryz.t124, by kernel_rfl, by kernel_rfl, by kernel_rfl, by kernel_rfl, fun h => by cases h⟩
theorem row38:TRow.ok prog 38 ⟨(.pointer 223),[(.pointer none)],false,1,8⟩:=⟨Tryz.underlying38,rfl,Tryz.t38,by kernel_rfl,by kernel_rfl,by kernel_rfl,by kernel_rfl,fun _=>⟨_,rfl,rfl⟩⟩
theorem row64:TRow.ok prog 64 ⟨(.slice 83),[(.slice none 0 0)],false,1,24⟩:=⟨Tryz.underlying64,rfl,Tryz.t64,by kernel_rfl,by kernel_rfl,by kernel_rfl,by kernel_rfl,fun _=>⟨_,rfl,rfl⟩⟩
theorem row49 : TRow.ok prog 49 ⟨(.interface #[("Error", 491)]), [.nilIface], false, 1, 16⟩ := ⟨Tryz.underlying49, rfl, Tryz.t49, by kernel_rfl, by kernel_rfl, by kernel_rfl, by kernel_rfl, fun _ => ⟨_, rfl, rfl⟩⟩
theorem row158 : TRow.ok prog 158 ⟨(.struct ⟨[⟨"Tx", 3, 0, false, "", "", 0⟩, ⟨"Last", 3, 1, false, "", "", 8⟩, ⟨"Committed", 4, 2, false, "", "", 16⟩, ⟨"Undoing", 4, 3, false, "", "", 17⟩]⟩), [(.int .i64 0), (.int .i64 0), (.bool false), (.bool false)], true, 4, 24⟩ := ⟨Tryz.underlying158, rfl, Tryz.t158, by kernel_rfl, by kernel_rfl, by kernel_rfl, by kernel_rfl, fun h => by cases h⟩
theorem row24 : TRow.ok prog 24 ⟨(.struct ⟨[⟨"Pages", 3, 0, false, "", "", 0⟩, ⟨"Log", 3, 1, false, "", "", 8⟩, ⟨"Frames", 3, 2, false, "", "", 16⟩]⟩), [(.int .i64 0), (.int .i64 0), (.int .i64 0)], true, 3, 24⟩ := ⟨Tryz.underlying24, rfl, Tryz.t24, by kernel_rfl, by kernel_rfl, by kernel_rfl, by kernel_rfl, fun h => by cases h⟩
theorem row122:TRow.ok prog 122 ⟨(.slice 158),[(.slice none 0 0)],false,1,24⟩:=⟨Tryz.underlying122,rfl,Tryz.t122,by kernel_rfl,by kernel_rfl,by kernel_rfl,by kernel_rfl,fun _=>⟨_,rfl,rfl⟩⟩
theorem row119:TRow.ok prog 119 ⟨(.int .i64),[(.int .i64 0)],false,1,8⟩:=⟨Tryz.underlying119,rfl,Tryz.t119,by kernel_rfl,by kernel_rfl,by kernel_rfl,by kernel_rfl,fun _=>⟨_,rfl,rfl⟩⟩
theorem row79 : TRow.ok prog 79 ⟨(.struct ⟨[⟨"ID", 3, 0, false, "", "", 0⟩, ⟨"Group", 3, 1, false, "", "", 8⟩, ⟨"Bounds", 77, 2, false, "", "", 16⟩, ⟨"Value", 2, 4, false, "", "", 32⟩]⟩), [(.int .i64 0), (.int .i64 0), (.int .i64 0), (.int .i64 0), (.int .i64 0)], true, 5, 40⟩ := ⟨Tryz.underlying79, rfl, Tryz.t79, by kernel_rfl, by kernel_rfl, by kernel_rfl, by kernel_rfl, fun h => by cases h⟩
theorem row83 : TRow.ok prog 83 ⟨(.struct ⟨[⟨"Page", 3, 0, false, "", "", 0⟩, ⟨"Since", 3, 1, false, "", "", 8⟩]⟩), [(.int .i64 0), (.int .i64 0)], true, 2, 16⟩ := ⟨Tryz.underlying83, rfl, Tryz.t83, by kernel_rfl, by kernel_rfl, by kernel_rfl, by kernel_rfl, fun h => by cases h⟩
theorem row40:TRow.ok prog 40 ⟨(.pointer 174),[(.pointer none)],false,1,8⟩:=⟨Tryz.underlying40,rfl,Tryz.t40,by kernel_rfl,by kernel_rfl,by kernel_rfl,by kernel_rfl,fun _=>⟨_,rfl,rfl⟩⟩
theorem row5:TRow.ok prog 5 ⟨(.int .u8),[(.int .u8 0)],false,1,1⟩:=⟨Tryz.underlying5,rfl,Tryz.t5,by kernel_rfl,by kernel_rfl,by kernel_rfl,by kernel_rfl,fun _=>⟨_,rfl,rfl⟩⟩
theorem row39:TRow.ok prog 39 ⟨(.pointer 238),[(.pointer none)],false,1,8⟩:=⟨Tryz.underlying39,rfl,Tryz.t39,by kernel_rfl,by kernel_rfl,by kernel_rfl,by kernel_rfl,fun _=>⟨_,rfl,rfl⟩⟩
theorem row30:TRow.ok prog 30 ⟨(.slice 81),[(.slice none 0 0)],false,1,24⟩:=⟨Tryz.underlying30,rfl,Tryz.t30,by kernel_rfl,by kernel_rfl,by kernel_rfl,by kernel_rfl,fun _=>⟨_,rfl,rfl⟩⟩
theorem row2:TRow.ok prog 2 ⟨(.int .i64),[(.int .i64 0)],false,1,8⟩:=⟨Tryz.underlying2,rfl,Tryz.t2,by kernel_rfl,by kernel_rfl,by kernel_rfl,by kernel_rfl,fun _=>⟨_,rfl,rfl⟩⟩
theorem row121 : TRow.ok prog 121 ⟨(.struct ⟨[⟨"Page", 3, 0, false, "", "", 0⟩, ⟨"Index", 3, 1, false, "", "", 8⟩]⟩), [(.int .i64 0), (.int .i64 0)], true, 2, 16⟩ := ⟨Tryz.underlying121, rfl, Tryz.t121, by kernel_rfl, by kernel_rfl, by kernel_rfl, by kernel_rfl, fun h => by cases h⟩
theorem row29:TRow.ok prog 29 ⟨(.slice 79),[(.slice none 0 0)],false,1,24⟩:=⟨Tryz.underlying29,rfl,Tryz.t29,by kernel_rfl,by kernel_rfl,by kernel_rfl,by kernel_rfl,fun _=>⟨_,rfl,rfl⟩⟩
theorem row238 : TRow.ok prog 238 ⟨(.struct ⟨[⟨"d", 38, 0, false, "", "quota/log", 0⟩, ⟨"first", 3, 1, false, "", "quota/log", 8⟩, ⟨"count", 3, 2, false, "", "quota/log", 16⟩, ⟨"records", 101, 3, false, "", "quota/log", 24⟩, ⟨"bytes", 236, 4, false, "", "quota/log", 48⟩, ⟨"forced", 3, 5, false, "", "quota/log", 72⟩, ⟨"err", 49, 6, false, "", "quota/log", 80⟩]⟩), [(.pointer none), (.int .i64 0), (.int .i64 0), (.slice none 0 0), (.slice none 0 0), (.int .i64 0), .nilIface], true, 7, 96⟩ := ⟨Tryz.underlying238, rfl, Tryz.t238, by kernel_rfl, by kernel_rfl, by kernel_rfl, by kernel_rfl, fun h => by cases h⟩
theorem row223 : TRow.ok prog 223 ⟨(.struct ⟨[⟨"image", 54, 0, false, "", "quota/sectors", 0⟩, ⟨"pending", 218, 1, false, "", "quota/sectors", 24⟩, ⟨"step", 3, 2, false, "", "quota/sectors", 48⟩, ⟨"loss", 35, 3, false, "", "quota/sectors", 56⟩, ⟨"down", 4, 6, false, "", "quota/sectors", 96⟩, ⟨"calls", 3, 7, false, "", "quota/sectors", 104⟩]⟩), [(.slice none 0 0), (.slice none 0 0), (.int .i64 0), (.slice none 0 0), (.int .i64 0), (.int .i64 0), (.bool false), (.int .i64 0)], true, 8, 112⟩ := ⟨Tryz.underlying223, rfl, Tryz.t223, by kernel_rfl, by kernel_rfl, by kernel_rfl, by kernel_rfl, fun h => by cases h⟩
theorem row32 : TRow.ok prog 32 ⟨(.struct ⟨[⟨"Number", 3, 0, false, "", "", 0⟩, ⟨"LSN", 3, 1, false, "", "", 8⟩, ⟨"Counters", 29, 2, false, "", "", 16⟩, ⟨"Groups", 30, 3, false, "", "", 40⟩]⟩), [(.int .i64 0), (.int .i64 0), (.slice none 0 0), (.slice none 0 0)], true, 4, 64⟩ := ⟨Tryz.underlying32, rfl, Tryz.t32, by kernel_rfl, by kernel_rfl, by kernel_rfl, by kernel_rfl, fun h => by cases h⟩
theorem row33:TRow.ok prog 33 ⟨(.slice 191),[(.slice none 0 0)],false,1,24⟩:=⟨Tryz.underlying33,rfl,Tryz.t33,by kernel_rfl,by kernel_rfl,by kernel_rfl,by kernel_rfl,fun _=>⟨_,rfl,rfl⟩⟩
theorem row42:TRow.ok prog 42 ⟨(.slice 3),[(.slice none 0 0)],false,1,24⟩:=⟨Tryz.underlying42,rfl,Tryz.t42,by kernel_rfl,by kernel_rfl,by kernel_rfl,by kernel_rfl,fun _=>⟨_,rfl,rfl⟩⟩
theorem row172:TRow.ok prog 172 ⟨(.map 3 171),[(.map none)],false,1,8⟩:=⟨Tryz.underlying172,rfl,Tryz.t172,by kernel_rfl,by kernel_rfl,by kernel_rfl,by kernel_rfl,fun _=>⟨_,rfl,rfl⟩⟩
theorem row174 : TRow.ok prog 174 ⟨(.struct ⟨[⟨"d", 38, 0, false, "", "quota/pool", 0⟩, ⟨"l", 39, 1, false, "", "quota/pool", 8⟩, ⟨"shape", 24, 2, false, "", "quota/pool", 16⟩, ⟨"held", 172, 5, false, "", "quota/pool", 40⟩, ⟨"clock", 3, 6, false, "", "quota/pool", 48⟩, ⟨"ended", 4, 7, false, "", "quota/pool", 56⟩]⟩), [(.pointer none), (.pointer none), (.int .i64 0), (.int .i64 0), (.int .i64 0), (.map none), (.int .i64 0), (.bool false)], true, 8, 64⟩ := ⟨Tryz.underlying174, rfl, Tryz.t174, by kernel_rfl, by kernel_rfl, by kernel_rfl, by kernel_rfl, fun h => by cases h⟩
theorem row236:TRow.ok prog 236 ⟨(.slice 54),[(.slice none 0 0)],false,1,24⟩:=⟨Tryz.underlying236,rfl,Tryz.t236,by kernel_rfl,by kernel_rfl,by kernel_rfl,by kernel_rfl,fun _=>⟨_,rfl,rfl⟩⟩
theorem row218:TRow.ok prog 218 ⟨(.slice 221),[(.slice none 0 0)],false,1,24⟩:=⟨Tryz.underlying218,rfl,Tryz.t218,by kernel_rfl,by kernel_rfl,by kernel_rfl,by kernel_rfl,fun _=>⟨_,rfl,rfl⟩⟩
theorem row101:TRow.ok prog 101 ⟨(.slice 126),[(.slice none 0 0)],false,1,24⟩:=⟨Tryz.underlying101,rfl,Tryz.t101,by kernel_rfl,by kernel_rfl,by kernel_rfl,by kernel_rfl,fun _=>⟨_,rfl,rfl⟩⟩
theorem row176 : TRow.ok prog 176 ⟨(.struct ⟨[⟨"state", 57, 0, false, "", "quota/pool", 0⟩, ⟨"pins", 3, 4, false, "", "quota/pool", 64⟩, ⟨"dirty", 4, 5, false, "", "quota/pool", 72⟩, ⟨"since", 3, 6, false, "", "quota/pool", 80⟩, ⟨"used", 3, 7, false, "", "quota/pool", 88⟩]⟩), [(.int .i64 0), (.int .i64 0), (.slice none 0 0), (.slice none 0 0), (.int .i64 0), (.bool false), (.int .i64 0), (.int .i64 0)], true, 8, 96⟩ := ⟨Tryz.underlying176, rfl, Tryz.t176, by kernel_rfl, by kernel_rfl, by kernel_rfl, by kernel_rfl, fun h => by cases h⟩
theorem row221 : TRow.ok prog 221 ⟨(.struct ⟨[⟨"Sector", 3, 0, false, "", "", 0⟩, ⟨"Bytes", 54, 1, false, "", "", 8⟩]⟩), [(.int .i64 0), (.slice none 0 0)], true, 2, 32⟩ := ⟨Tryz.underlying221, rfl, Tryz.t221, by kernel_rfl, by kernel_rfl, by kernel_rfl, by kernel_rfl, fun h => by cases h⟩
theorem row35 : TRow.ok prog 35 ⟨(.struct ⟨[⟨"Keep", 33, 0, false, "", "", 0⟩, ⟨"Torn", 3, 1, false, "", "", 24⟩, ⟨"Offset", 3, 2, false, "", "", 32⟩]⟩), [(.slice none 0 0), (.int .i64 0), (.int .i64 0)], true, 3, 40⟩ := ⟨Tryz.underlying35, rfl, Tryz.t35, by kernel_rfl, by kernel_rfl, by kernel_rfl, by kernel_rfl, fun h => by cases h⟩
theorem row44 : TRow.ok prog 44 ⟨(.struct ⟨[⟨"s", 24, 0, false, "", "quota/quotalaw09", 0⟩, ⟨"d", 38, 3, false, "", "quota/quotalaw09", 24⟩, ⟨"l", 39, 4, false, "", "quota/quotalaw09", 32⟩, ⟨"q", 40, 5, false, "", "quota/quotalaw09", 40⟩, ⟨"had", 41, 6, false, "", "quota/quotalaw09", 48⟩, ⟨"done", 42, 7, false, "", "quota/quotalaw09", 72⟩]⟩), [(.int .i64 0), (.int .i64 0), (.int .i64 0), (.pointer none), (.pointer none), (.pointer none), (.slice none 0 0), (.slice none 0 0)], true, 8, 96⟩ := ⟨Tryz.underlying44, rfl, Tryz.t44, by kernel_rfl, by kernel_rfl, by kernel_rfl, by kernel_rfl, fun h => by cases h⟩
theorem row9:TRow.ok prog 9 ⟨.string,[(.string ⟨#[]⟩)],false,1,16⟩:=⟨Tryz.underlying9,rfl,Tryz.t9,by kernel_rfl,by kernel_rfl,by kernel_rfl,by kernel_rfl,fun _=>⟨_,rfl,rfl⟩⟩
theorem row265:TRow.ok prog 265 ⟨(.map 3 158),[(.map none)],false,1,8⟩:=⟨Tryz.underlying265,rfl,Tryz.t265,by kernel_rfl,by kernel_rfl,by kernel_rfl,by kernel_rfl,fun _=>⟨_,rfl,rfl⟩⟩
theorem row351 : TRow.ok prog 351 ⟨(.struct ⟨[⟨"may", 348, 0, false, "", "quota/txns", 0⟩, ⟨"then", 349, 1, false, "", "quota/txns", 8⟩]⟩), [.nilFunc, .nilFunc], true, 2, 16⟩ := ⟨Tryz.underlying351, rfl, Tryz.t351, by kernel_rfl, by kernel_rfl, by kernel_rfl, by kernel_rfl, fun h => by cases h⟩
theorem row474 : TRow.ok prog 474 ⟨(.struct ⟨[⟨"b", 54, 0, false, "", "quota/field", 0⟩, ⟨"at", 3, 1, false, "", "quota/field", 24⟩, ⟨"err", 46, 2, false, "", "quota/field", 32⟩]⟩), [(.slice none 0 0), (.int .i64 0), (.int .i64 0)], true, 3, 40⟩ := ⟨Tryz.underlying474, rfl, Tryz.t474, by kernel_rfl, by kernel_rfl, by kernel_rfl, by kernel_rfl, fun h => by cases h⟩
theorem row81 : TRow.ok prog 81 ⟨(.struct ⟨[⟨"ID", 3, 0, false, "", "", 0⟩, ⟨"Sum", 2, 1, false, "", "", 8⟩]⟩), [(.int .i64 0), (.int .i64 0)], true, 2, 16⟩ := ⟨Tryz.underlying81, rfl, Tryz.t81, by kernel_rfl, by kernel_rfl, by kernel_rfl, by kernel_rfl, fun h => by cases h⟩
theorem row20:TRow.ok prog 20 ⟨(.interface #[]),[.nilIface],false,1,16⟩:=⟨Tryz.underlying20,rfl,Tryz.t20,by kernel_rfl,by kernel_rfl,by kernel_rfl,by kernel_rfl,fun _=>⟨_,rfl,rfl⟩⟩
theorem row267 : TRow.ok prog 267 ⟨(.struct ⟨[⟨"live", 265, 0, false, "", "quota/txns", 0⟩, ⟨"next", 3, 1, false, "", "quota/txns", 8⟩]⟩), [(.map none), (.int .i64 0)], true, 2, 16⟩ := ⟨Tryz.underlying267, rfl, Tryz.t267, by kernel_rfl, by kernel_rfl, by kernel_rfl, by kernel_rfl, fun h => by cases h⟩
theorem row288 : TRow.ok prog 288 ⟨(.struct ⟨[⟨"typ_", 17, 0, false, "", "internal/reflectlite", 0⟩, ⟨"ptr", 285, 1, false, "", "internal/reflectlite", 8⟩, ⟨"flag", 286, 2, true, "", "internal/reflectlite", 16⟩]⟩), [(.pointer none), (.pointer none), (.int .u64 0)], true, 3, 24⟩ := ⟨Tryz.underlying288, rfl, Tryz.t288, by kernel_rfl, by kernel_rfl, by kernel_rfl, by kernel_rfl, fun h => by cases h⟩
theorem row434:TRow.ok prog 434 ⟨(.pointer 474),[(.pointer none)],false,1,8⟩:=⟨Tryz.underlying434,rfl,Tryz.t434,by kernel_rfl,by kernel_rfl,by kernel_rfl,by kernel_rfl,fun _=>⟨_,rfl,rfl⟩⟩
theorem row255 : TRow.ok prog 255 ⟨(.struct ⟨[⟨"Call", 9, 0, false, "", "", 0⟩, ⟨"At", 3, 1, false, "", "", 16⟩, ⟨"Err", 49, 2, false, "", "", 24⟩]⟩), [(.string ⟨#[]⟩), (.int .i64 0), .nilIface], true, 3, 40⟩ := ⟨Tryz.underlying255, rfl, Tryz.t255, by kernel_rfl, by kernel_rfl, by kernel_rfl, by kernel_rfl, fun h => by cases h⟩
theorem row194:TRow.ok prog 194 ⟨(.int .u32),[(.int .u32 0)],false,1,4⟩:=⟨Tryz.underlying194,rfl,Tryz.t194,by kernel_rfl,by kernel_rfl,by kernel_rfl,by kernel_rfl,fun _=>⟨_,rfl,rfl⟩⟩
theorem row369:TRow.ok prog 369 ⟨(.slice 374),[(.slice none 0 0)],false,1,24⟩:=⟨Tryz.underlying369,rfl,Tryz.t369,by kernel_rfl,by kernel_rfl,by kernel_rfl,by kernel_rfl,fun _=>⟨_,rfl,rfl⟩⟩
theorem row142:TRow.ok prog 142 ⟨(.pointer 267),[(.pointer none)],false,1,8⟩:=⟨Tryz.underlying142,rfl,Tryz.t142,by kernel_rfl,by kernel_rfl,by kernel_rfl,by kernel_rfl,fun _=>⟨_,rfl,rfl⟩⟩
theorem row366:TRow.ok prog 366 ⟨(.pointer 440),[(.pointer none)],false,1,8⟩:=⟨Tryz.underlying366,rfl,Tryz.t366,by kernel_rfl,by kernel_rfl,by kernel_rfl,by kernel_rfl,fun _=>⟨_,rfl,rfl⟩⟩
theorem row77 : TRow.ok prog 77 ⟨(.struct ⟨[⟨"Lo", 2, 0, false, "", "", 0⟩, ⟨"Hi", 2, 1, false, "", "", 8⟩]⟩), [(.int .i64 0), (.int .i64 0)], true, 2, 16⟩ := ⟨Tryz.underlying77, rfl, Tryz.t77, by kernel_rfl, by kernel_rfl, by kernel_rfl, by kernel_rfl, fun h => by cases h⟩
theorem row345:TRow.ok prog 345 ⟨(.map 3 3),[(.map none)],false,1,8⟩:=⟨Tryz.underlying345,rfl,Tryz.t345,by kernel_rfl,by kernel_rfl,by kernel_rfl,by kernel_rfl,fun _=>⟨_,rfl,rfl⟩⟩
theorem row41:TRow.ok prog 41 ⟨(.slice 67),[(.slice none 0 0)],false,1,24⟩:=⟨Tryz.underlying41,rfl,Tryz.t41,by kernel_rfl,by kernel_rfl,by kernel_rfl,by kernel_rfl,fun _=>⟨_,rfl,rfl⟩⟩
theorem row37 : TRow.ok prog 37 ⟨(.struct ⟨[⟨"Kind", 3, 0, false, "", "", 0⟩, ⟨"N", 3, 1, false, "", "", 8⟩, ⟨"A", 3, 2, false, "", "", 16⟩, ⟨"X", 32, 3, false, "", "", 24⟩, ⟨"Raw", 4, 7, false, "", "", 88⟩, ⟨"L", 35, 8, false, "", "", 96⟩]⟩), [(.int .i64 0), (.int .i64 0), (.int .i64 0), (.int .i64 0), (.int .i64 0), (.slice none 0 0), (.slice none 0 0), (.bool false), (.slice none 0 0), (.int .i64 0), (.int .i64 0)], true, 11, 136⟩ := ⟨Tryz.underlying37, rfl, Tryz.t37, by kernel_rfl, by kernel_rfl, by kernel_rfl, by kernel_rfl, fun h => by cases h⟩
theorem row359 : TRow.ok prog 359 ⟨(.struct ⟨[⟨"at", 3, 0, false, "", "quota/log", 0⟩, ⟨"e", 46, 1, false, "", "quota/log", 8⟩]⟩), [(.int .i64 0), (.int .i64 0)], true, 2, 16⟩ := ⟨Tryz.underlying359, rfl, Tryz.t359, by kernel_rfl, by kernel_rfl, by kernel_rfl, by kernel_rfl, fun h => by cases h⟩
theorem row147 : TRow.ok prog 147 ⟨(.struct ⟨[⟨"Kind", 3, 0, false, "", "", 0⟩, ⟨"N", 3, 1, false, "", "", 8⟩]⟩), [(.int .i64 0), (.int .i64 0)], true, 2, 16⟩ := ⟨Tryz.underlying147, rfl, Tryz.t147, by kernel_rfl, by kernel_rfl, by kernel_rfl, by kernel_rfl, fun h => by cases h⟩
theorem row171:TRow.ok prog 171 ⟨(.pointer 176),[(.pointer none)],false,1,8⟩:=⟨Tryz.underlying171,rfl,Tryz.t171,by kernel_rfl,by kernel_rfl,by kernel_rfl,by kernel_rfl,fun _=>⟨_,rfl,rfl⟩⟩
theorem row253:TRow.ok prog 253 ⟨(.pointer 255),[(.pointer none)],false,1,8⟩:=⟨Tryz.underlying253,rfl,Tryz.t253,by kernel_rfl,by kernel_rfl,by kernel_rfl,by kernel_rfl,fun _=>⟨_,rfl,rfl⟩⟩
theorem row440 : TRow.ok prog 440 ⟨(.struct ⟨[⟨"b", 54, 0, false, "", "quota/field", 0⟩]⟩), [(.slice none 0 0)], true, 1, 24⟩ := ⟨Tryz.underlying440, rfl, Tryz.t440, by kernel_rfl, by kernel_rfl, by kernel_rfl, by kernel_rfl, fun h => by cases h⟩
theorem row26:TRow.ok prog 26 ⟨(.pointer 44),[(.pointer none)],false,1,8⟩:=⟨Tryz.underlying26,rfl,Tryz.t26,by kernel_rfl,by kernel_rfl,by kernel_rfl,by kernel_rfl,fun _=>⟨_,rfl,rfl⟩⟩
theorem row298 : TRow.ok prog 298 ⟨(.struct ⟨[⟨"err", 46, 0, false, "", "quota/twin", 0⟩]⟩), [(.int .i64 0)], true, 1, 8⟩ := ⟨Tryz.underlying298, rfl, Tryz.t298, by kernel_rfl, by kernel_rfl, by kernel_rfl, by kernel_rfl, fun h => by cases h⟩
theorem row370:TRow.ok prog 370 ⟨(.slice 375),[(.slice none 0 0)],false,1,24⟩:=⟨Tryz.underlying370,rfl,Tryz.t370,by kernel_rfl,by kernel_rfl,by kernel_rfl,by kernel_rfl,fun _=>⟨_,rfl,rfl⟩⟩
theorem row67:TRow.ok prog 67 ⟨(.slice 32),[(.slice none 0 0)],false,1,24⟩:=⟨Tryz.underlying67,rfl,Tryz.t67,by kernel_rfl,by kernel_rfl,by kernel_rfl,by kernel_rfl,fun _=>⟨_,rfl,rfl⟩⟩
theorem row291 : TRow.ok prog 291 ⟨(.interface #[("AssignableTo", 295), ("Comparable", 22), ("Elem", 292), ("Implements", 295), ("Kind", 294), ("Name", 491), ("PkgPath", 491), ("Size", 505), ("String", 491), ("internal/reflectlite.common", 497), ("internal/reflectlite.uncommon", 506)]), [.nilIface], false, 1, 16⟩ := ⟨Tryz.underlying291, rfl, Tryz.t291, by kernel_rfl, by kernel_rfl, by kernel_rfl, by kernel_rfl, fun _ => ⟨_, rfl, rfl⟩⟩
theorem row200:TRow.ok prog 200 ⟨(.func #[301] #[] false),[.nilFunc],false,1,8⟩:=⟨Tryz.underlying200,rfl,Tryz.t200,by kernel_rfl,by kernel_rfl,by kernel_rfl,by kernel_rfl,fun _=>⟨_,rfl,rfl⟩⟩
theorem row226:TRow.ok prog 226 ⟨(.func #[5] #[4] false),[.nilFunc],false,1,8⟩:=⟨Tryz.underlying226,rfl,Tryz.t226,by kernel_rfl,by kernel_rfl,by kernel_rfl,by kernel_rfl,fun _=>⟨_,rfl,rfl⟩⟩
theorem row68:TRow.ok prog 68 ⟨(.slice 64),[(.slice none 0 0)],false,1,24⟩:=⟨Tryz.underlying68,rfl,Tryz.t68,by kernel_rfl,by kernel_rfl,by kernel_rfl,by kernel_rfl,fun _=>⟨_,rfl,rfl⟩⟩
theorem row141:TRow.ok prog 141 ⟨(.slice 147),[(.slice none 0 0)],false,1,24⟩:=⟨Tryz.underlying141,rfl,Tryz.t141,by kernel_rfl,by kernel_rfl,by kernel_rfl,by kernel_rfl,fun _=>⟨_,rfl,rfl⟩⟩
theorem row1:TRow.ok prog 1 ⟨(.func #[] #[] false),[.nilFunc],false,1,8⟩:=⟨Tryz.underlying1,rfl,Tryz.t1,by kernel_rfl,by kernel_rfl,by kernel_rfl,by kernel_rfl,fun _=>⟨_,rfl,rfl⟩⟩
theorem row293:TRow.ok prog 293 ⟨(.int .u8),[(.int .u8 0)],false,1,1⟩:=⟨Tryz.underlying293,rfl,Tryz.t293,by kernel_rfl,by kernel_rfl,by kernel_rfl,by kernel_rfl,fun _=>⟨_,rfl,rfl⟩⟩
theorem row373:TRow.ok prog 373 ⟨(.pointer 126),[(.pointer none)],false,1,8⟩:=⟨Tryz.underlying373,rfl,Tryz.t373,by kernel_rfl,by kernel_rfl,by kernel_rfl,by kernel_rfl,fun _=>⟨_,rfl,rfl⟩⟩
theorem row374:TRow.ok prog 374 ⟨(.pointer 3),[(.pointer none)],false,1,8⟩:=⟨Tryz.underlying374,rfl,Tryz.t374,by kernel_rfl,by kernel_rfl,by kernel_rfl,by kernel_rfl,fun _=>⟨_,rfl,rfl⟩⟩
theorem row375:TRow.ok prog 375 ⟨(.pointer 2),[(.pointer none)],false,1,8⟩:=⟨Tryz.underlying375,rfl,Tryz.t375,by kernel_rfl,by kernel_rfl,by kernel_rfl,by kernel_rfl,fun _=>⟨_,rfl,rfl⟩⟩
theorem row396:TRow.ok prog 396 ⟨(.slice 49),[(.slice none 0 0)],false,1,24⟩:=⟨Tryz.underlying396,rfl,Tryz.t396,by kernel_rfl,by kernel_rfl,by kernel_rfl,by kernel_rfl,fun _=>⟨_,rfl,rfl⟩⟩
theorem row399:TRow.ok prog 399 ⟨(.array 16 194),[(.int .u32 0),(.int .u32 0),(.int .u32 0),(.int .u32 0),(.int .u32 0),(.int .u32 0),(.int .u32 0),(.int .u32 0),(.int .u32 0),(.int .u32 0),(.int .u32 0),(.int .u32 0),(.int .u32 0),(.int .u32 0),(.int .u32 0),(.int .u32 0)],true,16,64⟩:=⟨Tryz.underlying399,rfl,Tryz.t399,by kernel_rfl,by kernel_rfl,by kernel_rfl,by kernel_rfl,fun h=>by cases h⟩
theorem row148:TRow.ok prog 148 ⟨(.pointer 124),[(.pointer none)],false,1,8⟩:=⟨Tryz.underlying148,rfl,Tryz.t148,by kernel_rfl,by kernel_rfl,by kernel_rfl,by kernel_rfl,fun _=>⟨_,rfl,rfl⟩⟩
theorem row181:TRow.ok prog 181 ⟨(.pointer 46),[(.pointer none)],false,1,8⟩:=⟨Tryz.underlying181,rfl,Tryz.t181,by kernel_rfl,by kernel_rfl,by kernel_rfl,by kernel_rfl,fun _=>⟨_,rfl,rfl⟩⟩
theorem row348:TRow.ok prog 348 ⟨(.func #[158] #[4] false),[.nilFunc],false,1,8⟩:=⟨Tryz.underlying348,rfl,Tryz.t348,by kernel_rfl,by kernel_rfl,by kernel_rfl,by kernel_rfl,fun _=>⟨_,rfl,rfl⟩⟩
theorem row349:TRow.ok prog 349 ⟨(.func #[355] #[] false),[.nilFunc],false,1,8⟩:=⟨Tryz.underlying349,rfl,Tryz.t349,by kernel_rfl,by kernel_rfl,by kernel_rfl,by kernel_rfl,fun _=>⟨_,rfl,rfl⟩⟩
theorem row355:TRow.ok prog 355 ⟨(.pointer 158),[(.pointer none)],false,1,8⟩:=⟨Tryz.underlying355,rfl,Tryz.t355,by kernel_rfl,by kernel_rfl,by kernel_rfl,by kernel_rfl,fun _=>⟨_,rfl,rfl⟩⟩
theorem row390 : TRow.ok prog 390 ⟨(.interface #[("As", 392)]), [.nilIface], false, 1, 16⟩ := ⟨Tryz.underlying390, rfl, Tryz.t390, by kernel_rfl, by kernel_rfl, by kernel_rfl, by kernel_rfl, fun _ => ⟨_, rfl, rfl⟩⟩
theorem row393 : TRow.ok prog 393 ⟨(.interface #[("Unwrap", 394)]), [.nilIface], false, 1, 16⟩ := ⟨Tryz.underlying393, rfl, Tryz.t393, by kernel_rfl, by kernel_rfl, by kernel_rfl, by kernel_rfl, fun _ => ⟨_, rfl, rfl⟩⟩
theorem row395 : TRow.ok prog 395 ⟨(.interface #[("Unwrap", 397)]), [.nilIface], false, 1, 16⟩ := ⟨Tryz.underlying395, rfl, Tryz.t395, by kernel_rfl, by kernel_rfl, by kernel_rfl, by kernel_rfl, fun _ => ⟨_, rfl, rfl⟩⟩
theorem row17:TRow.ok prog 17 ⟨(.pointer 504),[(.pointer none)],false,1,8⟩:=⟨Tryz.underlying17,rfl,Tryz.t17,by kernel_rfl,by kernel_rfl,by kernel_rfl,by kernel_rfl,fun _=>⟨_,rfl,rfl⟩⟩
theorem row285:TRow.ok prog 285 ⟨.unsafePointer,[(.pointer none)],false,1,8⟩:=⟨Tryz.underlying285,rfl,Tryz.t285,by kernel_rfl,by kernel_rfl,by kernel_rfl,by kernel_rfl,fun _=>⟨_,rfl,rfl⟩⟩
theorem row286:TRow.ok prog 286 ⟨(.int .u64),[(.int .u64 0)],false,1,8⟩:=⟨Tryz.underlying286,rfl,Tryz.t286,by kernel_rfl,by kernel_rfl,by kernel_rfl,by kernel_rfl,fun _=>⟨_,rfl,rfl⟩⟩
theorem u_int:prog.underlying t_int = some (.int .i64):=Tryz.underlying3
theorem u_S_int:prog.underlying t_S_int = some (.slice 3):=Tryz.underlying42
theorem u_uint32:prog.underlying t_uint32 = some (.int .u32):=Tryz.underlying194
theorem u_quotalaw16_Op : prog.underlying t_quotalaw16_Op = some (.struct ⟨[⟨"Kind", 3, 0, false, "", "", 0⟩, ⟨"N", 3, 1, false, "", "", 8⟩]⟩) := Tryz.underlying147
theorem u_S_quotalaw16_Op:prog.underlying t_S_quotalaw16_Op = some (.slice 147):=Tryz.underlying141
theorem u_16_uint32:prog.underlying t_16_uint32 = some (.array 16 194):=Tryz.underlying399
theorem u_interface_Asinterface_bool : prog.underlying t_z51 = some (.interface #[("As", 392)]) := Tryz.underlying390
theorem u_interface_Unwrap_error : prog.underlying t_interface_Unwrap_error = some (.interface #[("Unwrap", 394)]) := Tryz.underlying393
theorem tab_ok:Tab.ok tab prog:=findT_ok rows (⟨row3,row126,row54,row57,row46,row191,row4,row124,row38,row64,row49,row158,row24,row122,row119,row79,row83,row40,row5,row39,row30,row2,row121,row29,row238,row223,row32,row33,row42,row172,row174,row236,row218,row101,row176,row221,row35,row44,row9,row265,row351,row474,row81,row20,row267,row288,row434,row255,row194,row369,row142,row366,row77,row345,row41,row37,row359,row147,row171,row253,row440,row26,row298,row370,row67,row291,row200,row226,row68,row141,row1,row293,row373,row374,row375,row396,row399,row148,row181,row348,row349,row355,row390,row393,row395,row17,row285,row286,trivial⟩)
theorem mixed:prog.follows .mixedOrders = true:=by kernel_rfl
theorem f_math_bits_Add64.fn:prog.funcs[f_math_bits_Add64]? = some Tryz.f379:=Tryz.func379
theorem f_math_bits_Sub64.fn:prog.funcs[f_math_bits_Sub64]? = some Tryz.f380:=Tryz.func380
theorem f_z15.ok:Callable prog f_z15:=callable_of Tryz.func14 (by kernel_rfl) rfl
def lvs:List (List Nat) → Nat → Option (List Nat)
 | [],_=>none
 | x :: _,0=>some x
 | _ :: l,n + 1=>lvs l n
def f_z15.live:Nat → Option (List Nat):=lvs [[0,1],[1,5,6,7],[1,5,6,7,34],[4],[1,5,6,7,8],[1,5,6,7,8,9],[1,5,6,7,8,9,45],[1,5,6,7,8,9],[1,5,6,7,8,9,10],[1,5,6,7,8,9,57],[4],[5,6,7,8,11],[5,6,7,8,11,12],[5,6,7,8,11,12,62],[5,6,7,8,11,12],[5,6,7,8,11,12,13,14],[5,6,7,8,11,12,13,95],[4],[5,6,7,8,11,12,13,115],[4],[5,6,7,8,11,12,13,15],[5,6,7,8,11,12,13,15,16],[5,6,7,8,11,12,13,15,16,119],[5,6,7,8,11,12,13,15,16],[5,6,7,8,11,12,13,15,16,132],[5,6,7,8,11,12,13,15,16],[5,6,7,8,11,12,13,141],[4],[5,6,7,8,11,12,13,17],[5,6,7,8,11,12,13,17,146],[5,6,7,8,11,12,13,17],[5,6,7,8,11,12,13,17],[5,6,7,8,11,12,13,18],[5,6,7,8,11,12,13,18,158],[5,6,7,8,11,12,13,18],[5,6,7,8,11,12,13,18],[7,20],[20,22],[4]]
variable {W:World} {H:HProp} {R:Ending → HProp → Prop}
theorem f_z15.does (a0 a1:Value) (h:exec prog W tab 184 f_z15.live (codeOf Tryz.f14) (bodyQ prog W tab [.tmp 4] R) (argFr 0 [a0,a1]) [] H):Does prog W f_z15 ⟨[a0,a1]⟩ H R :=
 Does.of_exec tab_ok f_z15.live Tryz.func14 rfl rfl rfl (by simp) h
def f_z15.plan18:List Nat:=[0,1,2,3,4,5,6,7,8,9,10,11,12,15,13,14,16,17,18,19]
def f_z15.last18:List Nat:=[16,17,18,19]
theorem f_z46.ok:Callable prog f_z46:=callable_of Tryz.func15 (by kernel_rfl) rfl
def f_z46.live:Nat → Option (List Nat):=lvs [[],[1],[1,2,3],[1,2,26],[0],[1,2,4,5],[1,2,4,37],[0],[1,4,6,7],[4,6,7,9],[4,6,62],[0],[4,6,10,11],[4,5,6,10,11,12],[4,6,12,103],[0],[4,5,6,12],[4,5,6,12,14],[6,12,143],[0],[5,6,12],[0]]
theorem f_z46.does (h:exec prog W tab 176 f_z46.live (codeOf Tryz.f15) (bodyQ prog W tab [.tmp 0] R) (argFr 0 []) [] H):Does prog W f_z46 ⟨[]⟩ H R :=
 Does.of_exec tab_ok f_z46.live Tryz.func15 rfl rfl rfl (by simp) h
theorem f_z4g.ok:Callable prog f_z4g:=callable_of Tryz.func16 (by kernel_rfl) rfl
def f_z4g.live:Nat → Option (List Nat):=lvs [[1],[3],[3,4,5],[3,5,6,7],[3,6,39],[2],[3,6,8,9],[3,6,9,10,11],[3,6,10,63],[2],[3,6,10,12,13],[3,6,10,12,77],[2],[3,14],[3,14,15],[3,14,15,87],[3,14,15],[3,14,15],[3,14,15],[2]]
theorem f_z4g.does (a0:Value) (h:exec prog W tab 112 f_z4g.live (codeOf Tryz.f16) (bodyQ prog W tab [.tmp 2] R) (argFr 0 [a0]) [] H):Does prog W f_z4g ⟨[a0]⟩ H R :=
 Does.of_exec tab_ok f_z4g.live Tryz.func16 rfl rfl rfl (by simp) h
theorem f_z1u.ok:Callable prog f_z1u:=callable_of Tryz.func17 (by kernel_rfl) rfl
def f_z1u.live:Nat → Option (List Nat):=lvs [[0,3],[0,3,5],[0,3,5,19],[0,3,5,19,20],[0,3,5,19,20],[0,5,25],[0,5,6],[4],[0,5,7,8],[0,5,7,8,54],[4],[4],[0,3,5,19,69],[4],[0,3,5,19,74],[],[0,3,5,19,82],[0,3,5,19,82],[0,3,5],[0,5,87],[0,5,9],[0,5,9],[0,5,9,101],[0,9],[4],[0,3,19,131],[],[0,3,143],[],[4]]
theorem f_z1u.does (a0 a1:Value) (h:exec prog W tab 159 f_z1u.live (codeOf Tryz.f17) (bodyQ prog W tab [.tmp 4] R) (argFr 0 [a0,a1]) [] H):Does prog W f_z1u ⟨[a0,a1]⟩ H R :=
 Does.of_exec tab_ok f_z1u.live Tryz.func17 rfl rfl rfl (by simp) h
def f_z1u.plan1:List Nat:=[0,1,2,3,4,5,6,7,8]
def f_z1u.last1:List Nat:=[7,8]
def f_z1u.plan23:List Nat:=[0,1,2,3,4,5,6,7,8,9,10]
def f_z1u.last23:List Nat:=[9,10]
def f_z1u.plan26:List Nat:=[0,1,2,3,4,5,6,7,8,9]
def f_z1u.last26:List Nat:=[9]
def f_z1u.plan28:List Nat:=[0,1,2,3,4,5,6,7,8,9,10,11,12,13]
def f_z1u.last28:List Nat:=[13]
theorem f_z2i.ok:Callable prog f_z2i:=callable_of Tryz.func18 (by kernel_rfl) rfl
def f_z2i.live:Nat → Option (List Nat):=lvs [[0],[2]]
theorem f_z2i.does (a0:Value) (h:exec prog W tab 4 f_z2i.live (codeOf Tryz.f18) (bodyQ prog W tab [.tmp 2] R) (argFr 0 [a0]) [] H):Does prog W f_z2i ⟨[a0]⟩ H R :=
 Does.of_exec tab_ok f_z2i.live Tryz.func18 rfl rfl rfl (by simp) h
theorem f_z32.ok:Callable prog f_z32:=callable_of Tryz.func19 (by kernel_rfl) rfl
def f_z32.live:Nat → Option (List Nat):=lvs [[0,1],[0,1,5],[0,1,5,11],[4],[6],[6,27],[4],[],[4]]
theorem f_z32.does (a0 a1:Value) (h:exec prog W tab 35 f_z32.live (codeOf Tryz.f19) (bodyQ prog W tab [.tmp 4] R) (argFr 0 [a0,a1]) [] H):Does prog W f_z32 ⟨[a0,a1]⟩ H R :=
 Does.of_exec tab_ok f_z32.live Tryz.func19 rfl rfl rfl (by simp) h
theorem f_z4h.ok:Callable prog f_z4h:=callable_of Tryz.func20 (by kernel_rfl) rfl
def f_z4h.live:Nat → Option (List Nat):=lvs [[0,1],[0,1,5,6],[1,6],[0,1,5,6,16],[0,1,19],[1,6],[4]]
theorem f_z4h.does (a0 a1:Value) (h:exec prog W tab 28 f_z4h.live (codeOf Tryz.f20) (bodyQ prog W tab [.tmp 4] R) (argFr 0 [a0,a1]) [] H):Does prog W f_z4h ⟨[a0,a1]⟩ H R :=
 Does.of_exec tab_ok f_z4h.live Tryz.func20 rfl rfl rfl (by simp) h
theorem f_z24.ok:Callable prog f_z24:=callable_of Tryz.func21 (by kernel_rfl) rfl
def f_z24.live:Nat → Option (List Nat):=lvs [[0],[0,5],[2],[0,3],[3,8],[2],[2]]
theorem f_z24.does (a0:Value) (h:exec prog W tab 10 f_z24.live (codeOf Tryz.f21) (bodyQ prog W tab [.tmp 2] R) (argFr 0 [a0]) [] H):Does prog W f_z24 ⟨[a0]⟩ H R :=
 Does.of_exec tab_ok f_z24.live Tryz.func21 rfl rfl rfl (by simp) h
theorem f_z25.ok:Callable prog f_z25:=callable_of Tryz.func22 (by kernel_rfl) rfl
def f_z25.live:Nat → Option (List Nat):=lvs [[1,2],[1,2,8],[4,5],[1,16],[4,5],[4,5]]
theorem f_z25.does (a0 a1:Value) (h:exec prog W tab 20 f_z25.live (codeOf Tryz.f22) (bodyQ prog W tab [.tmp 4,.tmp 5] R) (argFr 0 [a0,a1]) [] H):Does prog W f_z25 ⟨[a0,a1]⟩ H R :=
 Does.of_exec tab_ok f_z25.live Tryz.func22 rfl rfl rfl (by simp) h
theorem f_z1n.ok:Callable prog f_z1n:=callable_of Tryz.func23 (by kernel_rfl) rfl
def f_z1n.live:Nat → Option (List Nat):=lvs [[0,1,4,5],[0,1,4,5],[0,1,4,5],[0,1,4,5],[4,5]]
theorem f_z1n.does (a0 a1:Value) (h:exec prog W tab 21 f_z1n.live (codeOf Tryz.f23) (bodyQ prog W tab [.tmp 4,.cell 5 49] R) (argFr 0 [a0,a1]) [] H):Does prog W f_z1n ⟨[a0,a1]⟩ H R :=
 Does.of_exec tab_ok f_z1n.live Tryz.func23 rfl rfl rfl (by simp) h
theorem f_zc.ok:Callable prog f_zc:=callable_of Tryz.func24 (by kernel_rfl) rfl
def f_zc.live:Nat → Option (List Nat):=lvs [[0,1,4],[0,1,4,17],[4,5],[0,1,4,22],[4,5],[0,1,4,27],[4,5],[0,1,4,32],[4,5],[0,1,4,38],[4,5],[0,1,4,6],[0,1,4,6,7],[0,1,4,6,7,9,10],[0,1,4,6,7,9,10,61],[0,1,4,6,7,9,10],[0,1,4,6,7,9,10,11],[0,1,4,6,9,10,11,66],[4,5],[0,1,4,6,9,10,11,73],[4,5],[0,1,4,6,10,11,81],[4,5],[0,4,6,10,11,12],[0,4,6,10,11,12,101,102],[0,4,6,10,11,12,101,102,103],[0,4,6,10,11,12,13,101,102],[0,4,6,10,11,12,13,101,102,108],[0,4,6,10,11,12,14,101,102],[0,4,6,10,11,12,101,102],[0,4,6,10,11,12,15,101,102],[0,4,6,10,11,12,101,102],[0,4,6,10,11,12,101,102],[0,4,6,10,11,12,16],[0,4,6,10,11,12,16,168],[4,5],[4,12,184],[4,5],[4,5]]
theorem f_zc.does (a0 a1:Value) (h:exec prog W tab 187 f_zc.live (codeOf Tryz.f24) (bodyQ prog W tab [.cell 4 57,.tmp 5] R) (argFr 0 [a0,a1]) [] H):Does prog W f_zc ⟨[a0,a1]⟩ H R :=
 Does.of_exec tab_ok f_zc.live Tryz.func24 rfl rfl rfl (by simp) h
def f_zc.plan29:List Nat:=[0,1,2,3,4,5,6,7,8,9,10,11,12,13,14]
def f_zc.last29:List Nat:=[12,13,14]
def f_zc.plan31:List Nat:=[0,1,2,3,4,5,6,7,8,9,10,11,12,13,14,15,16,17,18,19,20,21,22,23,24,25,26,27]
def f_zc.last31:List Nat:=[25,26,27]
theorem f_z47.ok:Callable prog f_z47:=callable_of Tryz.func25 (by kernel_rfl) rfl
def f_z47.live:Nat → Option (List Nat):=lvs [[2,3],[4]]
theorem f_z47.does (a0 a1:Value) (h:exec prog W tab 31 f_z47.live (codeOf Tryz.f25) (bodyQ prog W tab [.tmp 4] R) (argFr 0 [a0,a1]) [] H):Does prog W f_z47 ⟨[a0,a1]⟩ H R :=
 Does.of_exec tab_ok f_z47.live Tryz.func25 rfl rfl rfl (by simp) h
theorem f_z4i.ok:Callable prog f_z4i:=callable_of Tryz.func26 (by kernel_rfl) rfl
def f_z4i.live:Nat → Option (List Nat):=lvs [[1,2],[2]]
theorem f_z4i.does (a0:Value) (h:exec prog W tab 12 f_z4i.live (codeOf Tryz.f26) (bodyQ prog W tab [.cell 2 32] R) (argFr 0 [a0]) [] H):Does prog W f_z4i ⟨[a0]⟩ H R :=
 Does.of_exec tab_ok f_z4i.live Tryz.func26 rfl rfl rfl (by simp) h
theorem f_z48.ok:Callable prog f_z48:=callable_of Tryz.func27 (by kernel_rfl) rfl
def f_z48.live:Nat → Option (List Nat):=lvs [[0,1,4],[4]]
theorem f_z48.does (a0 a1:Value) (h:exec prog W tab 23 f_z48.live (codeOf Tryz.f27) (bodyQ prog W tab [.cell 4 32] R) (argFr 0 [a0,a1]) [] H):Does prog W f_z48 ⟨[a0,a1]⟩ H R :=
 Does.of_exec tab_ok f_z48.live Tryz.func27 rfl rfl rfl (by simp) h
def f_z48.plan1:List Nat:=[0,1,2,3,4,5,6,7,8,9,10,11,12,13,14,15,16,17,18]
def f_z48.last1:List Nat:=[16,17,18]
theorem f_z2j.ok:Callable prog f_z2j:=callable_of Tryz.func28 (by kernel_rfl) rfl
def f_z2j.live:Nat → Option (List Nat):=lvs [[0],[2]]
theorem f_z2j.does (a0:Value) (h:exec prog W tab 9 f_z2j.live (codeOf Tryz.f28) (bodyQ prog W tab [.tmp 2] R) (argFr 0 [a0]) [] H):Does prog W f_z2j ⟨[a0]⟩ H R :=
 Does.of_exec tab_ok f_z2j.live Tryz.func28 rfl rfl rfl (by simp) h
theorem f_z1o.ok:Callable prog f_z1o:=callable_of Tryz.func29 (by kernel_rfl) rfl
def f_z1o.live:Nat → Option (List Nat):=lvs [[0],[0,3],[0,3,8,9,10],[0,3,8,9,10,11],[0,3,5,8,9,10],[0,3,5,6,8,9,10],[0,3,5,6,8,9,10,23],[0,3,8,9,10],[0,3,8,9,10],[2]]
theorem f_z1o.does (a0:Value) (h:exec prog W tab 35 f_z1o.live (codeOf Tryz.f29) (bodyQ prog W tab [.tmp 2] R) (argFr 0 [a0]) [] H):Does prog W f_z1o ⟨[a0]⟩ H R :=
 Does.of_exec tab_ok f_z1o.live Tryz.func29 rfl rfl rfl (by simp) h
theorem f_z4j.ok:Callable prog f_z4j:=callable_of Tryz.func30 (by kernel_rfl) rfl
def f_z4j.live:Nat → Option (List Nat):=lvs [[0,1],[0,1],[0,1,9],[4],[4]]
theorem f_z4j.does (a0 a1:Value) (h:exec prog W tab 14 f_z4j.live (codeOf Tryz.f30) (bodyQ prog W tab [.tmp 4] R) (argFr 0 [a0,a1]) [] H):Does prog W f_z4j ⟨[a0,a1]⟩ H R :=
 Does.of_exec tab_ok f_z4j.live Tryz.func30 rfl rfl rfl (by simp) h
theorem f_z1v.ok:Callable prog f_z1v:=callable_of Tryz.func31 (by kernel_rfl) rfl
def f_z1v.live:Nat → Option (List Nat):=lvs [[0,1,4],[1,4,6,7],[1,4,6,7,15],[4,5],[4,5]]
theorem f_z1v.does (a0 a1:Value) (h:exec prog W tab 25 f_z1v.live (codeOf Tryz.f31) (bodyQ prog W tab [.cell 4 57,.tmp 5] R) (argFr 0 [a0,a1]) [] H):Does prog W f_z1v ⟨[a0,a1]⟩ H R :=
 Does.of_exec tab_ok f_z1v.live Tryz.func31 rfl rfl rfl (by simp) h
theorem f_z4k.ok:Callable prog f_z4k:=callable_of Tryz.func32 (by kernel_rfl) rfl
def f_z4k.live:Nat → Option (List Nat):=lvs [[1,2],[1,2],[1,2],[2]]
theorem f_z4k.does (a0:Value) (h:exec prog W tab 12 f_z4k.live (codeOf Tryz.f32) (bodyQ prog W tab [.cell 2 32] R) (argFr 0 [a0]) [] H):Does prog W f_z4k ⟨[a0]⟩ H R :=
 Does.of_exec tab_ok f_z4k.live Tryz.func32 rfl rfl rfl (by simp) h
theorem f_z2k.ok:Callable prog f_z2k:=callable_of Tryz.func36 (by kernel_rfl) rfl
def f_z2k.live:Nat → Option (List Nat):=lvs [[0,1,5],[0,1,5,7],[6],[0,1,5,12],[6],[0,5],[],[6]]
theorem f_z2k.does (a0 a1 a2:Value) (h:exec prog W tab 30 f_z2k.live (codeOf Tryz.f36) (bodyQ prog W tab [.tmp 6] R) (argFr 0 [a0,a1,a2]) [] H):Does prog W f_z2k ⟨[a0,a1,a2]⟩ H R :=
 Does.of_exec tab_ok f_z2k.live Tryz.func36 rfl rfl rfl (by simp) h
def f_z2k.plan6:List Nat:=[0,1,2,4,5,6,7,3,8,9,10,11]
def f_z2k.last6:List Nat:=[9,10,11]
theorem f_z2o.ok:Callable prog f_z2o:=callable_of Tryz.func37 (by kernel_rfl) rfl
def f_z2o.live:Nat → Option (List Nat):=lvs [[0],[2]]
theorem f_z2o.does (a0:Value) (h:exec prog W tab 7 f_z2o.live (codeOf Tryz.f37) (bodyQ prog W tab [.tmp 2] R) (argFr 0 [a0]) [] H):Does prog W f_z2o ⟨[a0]⟩ H R :=
 Does.of_exec tab_ok f_z2o.live Tryz.func37 rfl rfl rfl (by simp) h
theorem f_z49.ok:Callable prog f_z49:=callable_of Tryz.func38 (by kernel_rfl) rfl
def f_z49.live:Nat → Option (List Nat):=lvs [[0,3],[0,3,8],[4],[],[4]]
theorem f_z49.does (a0 a1:Value) (h:exec prog W tab 12 f_z49.live (codeOf Tryz.f38) (bodyQ prog W tab [.tmp 4] R) (argFr 0 [a0,a1]) [] H):Does prog W f_z49 ⟨[a0,a1]⟩ H R :=
 Does.of_exec tab_ok f_z49.live Tryz.func38 rfl rfl rfl (by simp) h
theorem f_z4l.ok:Callable prog f_z4l:=callable_of Tryz.func39 (by kernel_rfl) rfl
def f_z4l.live:Nat → Option (List Nat):=lvs [[0],[0],[],[2]]
theorem f_z4l.does (a0:Value) (h:exec prog W tab 9 f_z4l.live (codeOf Tryz.f39) (bodyQ prog W tab [.tmp 2] R) (argFr 0 [a0]) [] H):Does prog W f_z4l ⟨[a0]⟩ H R :=
 Does.of_exec tab_ok f_z4l.live Tryz.func39 rfl rfl rfl (by simp) h
theorem f_z4m.ok:Callable prog f_z4m:=callable_of Tryz.func40 (by kernel_rfl) rfl
def f_z4m.live:Nat → Option (List Nat):=lvs [[0,1,4,5],[0,1,4,5],[0,1,4,5],[0,1,4,5],[0,1,4,5,6],[0,1,4,5,6,23],[4,5],[0,1,4,5,6,7],[0,1,4,5,6,7,24],[0,1,4,5,6,7,24,25],[0,1,4,5,6,7,8,24],[0,1,4,5,6,7,24],[0,1,4,5,6,7,24],[0,1,4,5,6,7,9],[0,1,4,5,6,7],[0,1,4,5,6],[0,1,4,5,6],[4,5],[4,5]]
theorem f_z4m.does (a0 a1:Value) (h:exec prog W tab 74 f_z4m.live (codeOf Tryz.f40) (bodyQ prog W tab [.tmp 4,.cell 5 49] R) (argFr 0 [a0,a1]) [] H):Does prog W f_z4m ⟨[a0,a1]⟩ H R :=
 Does.of_exec tab_ok f_z4m.live Tryz.func40 rfl rfl rfl (by simp) h
theorem f_z4n.ok:Callable prog f_z4n:=callable_of Tryz.func41 (by kernel_rfl) rfl
def f_z4n.live:Nat → Option (List Nat):=lvs [[0,1],[4]]
theorem f_z4n.does (a0 a1:Value) (h:exec prog W tab 20 f_z4n.live (codeOf Tryz.f41) (bodyQ prog W tab [.tmp 4] R) (argFr 0 [a0,a1]) [] H):Does prog W f_z4n ⟨[a0,a1]⟩ H R :=
 Does.of_exec tab_ok f_z4n.live Tryz.func41 rfl rfl rfl (by simp) h
theorem f_z4o.ok:Callable prog f_z4o:=callable_of Tryz.func43 (by kernel_rfl) rfl
def f_z4o.live:Nat → Option (List Nat):=lvs [[0],[2]]
theorem f_z4o.does (a0:Value) (h:exec prog W tab 9 f_z4o.live (codeOf Tryz.f43) (bodyQ prog W tab [.tmp 2] R) (argFr 0 [a0]) [] H):Does prog W f_z4o ⟨[a0]⟩ H R :=
 Does.of_exec tab_ok f_z4o.live Tryz.func43 rfl rfl rfl (by simp) h
theorem f_z1w.ok:Callable prog f_z1w:=callable_of Tryz.func48 (by kernel_rfl) rfl
def f_z1w.live:Nat → Option (List Nat):=lvs [[0],[2]]
theorem f_z1w.does (a0:Value) (h:exec prog W tab 8 f_z1w.live (codeOf Tryz.f48) (bodyQ prog W tab [.tmp 2] R) (argFr 0 [a0]) [] H):Does prog W f_z1w ⟨[a0]⟩ H R :=
 Does.of_exec tab_ok f_z1w.live Tryz.func48 rfl rfl rfl (by simp) h
theorem f_z3p.ok:Callable prog f_z3p:=callable_of Tryz.func61 (by kernel_rfl) rfl
def f_z3p.live:Nat → Option (List Nat):=lvs [[0],[0,5],[0,5,6,7],[0,5,6,25],[2,3,4],[0,5,6,8,9],[0,5,6,8,36],[2,3,4],[0,8,10,11],[8,10,11,12,13],[8,10,12,58],[2,3,4],[2,3,4]]
theorem f_z3p.does (a0:Value) (h:exec prog W tab 62 f_z3p.live (codeOf Tryz.f61) (bodyQ prog W tab [.tmp 2,.tmp 3,.tmp 4] R) (argFr 0 [a0]) [] H):Does prog W f_z3p ⟨[a0]⟩ H R :=
 Does.of_exec tab_ok f_z3p.live Tryz.func61 rfl rfl rfl (by simp) h
theorem f_z2p.ok:Callable prog f_z2p:=callable_of Tryz.func62 (by kernel_rfl) rfl
def f_z2p.live:Nat → Option (List Nat):=lvs [[],[1,2],[1,2,4],[1,2,4,6],[52],[0],[0]]
theorem f_z2p.does (h:exec prog W tab 71 f_z2p.live (codeOf Tryz.f62) (bodyQ prog W tab [.tmp 0] R) (argFr 0 []) [] H):Does prog W f_z2p ⟨[]⟩ H R :=
 Does.of_exec tab_ok f_z2p.live Tryz.func62 rfl rfl rfl (by simp) h
theorem f_z2q.ok:Callable prog f_z2q:=callable_of Tryz.func63 (by kernel_rfl) rfl
def f_z2q.live:Nat → Option (List Nat):=lvs [[0],[2]]
theorem f_z2q.does (a0:Value) (h:exec prog W tab 7 f_z2q.live (codeOf Tryz.f63) (bodyQ prog W tab [.tmp 2] R) (argFr 0 [a0]) [] H):Does prog W f_z2q ⟨[a0]⟩ H R :=
 Does.of_exec tab_ok f_z2q.live Tryz.func63 rfl rfl rfl (by simp) h
theorem f_z9.ok:Callable prog f_z9:=callable_of Tryz.func64 (by kernel_rfl) rfl
def f_z9.live:Nat → Option (List Nat):=lvs [[1,2,3,4,5],[2,3,4,5,11,12],[2,3,4,5,11,34],[10],[2,3,4,5,11,37],[2,11,18],[2,11,18,19,20],[2,11,18,19,48],[10],[2,11,19,21],[10],[2,3,4,5,11,37,65],[4,11,13,14],[4,11,13,75],[10],[4,13],[],[2,3,4,5,11,93],[3,4,5,11,100],[10],[3,4,5,11,15],[3,4,5,11,15,16],[3,4,5,11,15,16,17],[3,4,11,15,16,17,125],[3,4,11,15,16,17],[4,11,15,16,17,131],[10],[],[10]]
theorem f_z9.does (a0 a1 a2 a3 a4:Value) (h:exec prog W tab 154 f_z9.live (codeOf Tryz.f64) (bodyQ prog W tab [.tmp 10] R) (argFr 0 [a0,a1,a2,a3,a4]) [] H):Does prog W f_z9 ⟨[a0,a1,a2,a3,a4]⟩ H R :=
 Does.of_exec tab_ok f_z9.live Tryz.func64 rfl rfl rfl (by simp) h
def f_z9.plan20:List Nat:=[0,1,2,3,4,5,6,7,8]
def f_z9.last20:List Nat:=[7,8]
def f_z9.plan27:List Nat:=[0,1,2,3,4,5,6,7,8,9,10,11,12,13,14,15,16]
def f_z9.last27:List Nat:=[15,16]
theorem f_zn.ok:Callable prog f_zn:=callable_of Tryz.func65 (by kernel_rfl) rfl
def f_zn.live:Nat → Option (List Nat):=lvs [[0,1,4],[0,1,4,11],[4,5],[4,5]]
theorem f_zn.does (a0 a1:Value) (h:exec prog W tab 20 f_zn.live (codeOf Tryz.f65) (bodyQ prog W tab [.cell 4 124,.tmp 5] R) (argFr 0 [a0,a1]) [] H):Does prog W f_zn ⟨[a0,a1]⟩ H R :=
 Does.of_exec tab_ok f_zn.live Tryz.func65 rfl rfl rfl (by simp) h
theorem f_z3.ok:Callable prog f_z3:=callable_of Tryz.func66 (by kernel_rfl) rfl
def f_z3.live:Nat → Option (List Nat):=lvs [[0],[2]]
theorem f_z3.does (a0:Value) (h:exec prog W tab 4 f_z3.live (codeOf Tryz.f66) (bodyQ prog W tab [.tmp 2] R) (argFr 0 [a0]) [] H):Does prog W f_z3 ⟨[a0]⟩ H R :=
 Does.of_exec tab_ok f_z3.live Tryz.func66 rfl rfl rfl (by simp) h
theorem f_z1b.ok:Callable prog f_z1b:=callable_of Tryz.func67 (by kernel_rfl) rfl
def f_z1b.live:Nat → Option (List Nat):=lvs [[0,1],[0,1,10],[4],[0,1,5],[0,1,5,14],[0,1,5],[0,1,5,25],[4],[4]]
theorem f_z1b.does (a0 a1:Value) (h:exec prog W tab 26 f_z1b.live (codeOf Tryz.f67) (bodyQ prog W tab [.tmp 4] R) (argFr 0 [a0,a1]) [] H):Does prog W f_z1b ⟨[a0,a1]⟩ H R :=
 Does.of_exec tab_ok f_z1b.live Tryz.func67 rfl rfl rfl (by simp) h
def f_z1b.plan6:List Nat:=[0,1,2,3,4,5,6,7,8]
def f_z1b.last6:List Nat:=[8]
theorem f_z1c.ok:Callable prog f_z1c:=callable_of Tryz.func68 (by kernel_rfl) rfl
def f_z1c.live:Nat → Option (List Nat):=lvs [[0,1],[0,1,10],[4],[0,1,5],[0,1,5,14],[0,1,5],[0,1,5,25],[4],[4]]
theorem f_z1c.does (a0 a1:Value) (h:exec prog W tab 26 f_z1c.live (codeOf Tryz.f68) (bodyQ prog W tab [.tmp 4] R) (argFr 0 [a0,a1]) [] H):Does prog W f_z1c ⟨[a0,a1]⟩ H R :=
 Does.of_exec tab_ok f_z1c.live Tryz.func68 rfl rfl rfl (by simp) h
def f_z1c.plan6:List Nat:=[0,1,2,3,4,5,6,7,8]
def f_z1c.last6:List Nat:=[8]
theorem f_z1d.ok:Callable prog f_z1d:=callable_of Tryz.func69 (by kernel_rfl) rfl
def f_z1d.live:Nat → Option (List Nat):=lvs [[1],[2]]
theorem f_z1d.does (a0:Value) (h:exec prog W tab 6 f_z1d.live (codeOf Tryz.f69) (bodyQ prog W tab [.tmp 2] R) (argFr 0 [a0]) [] H):Does prog W f_z1d ⟨[a0]⟩ H R :=
 Does.of_exec tab_ok f_z1d.live Tryz.func69 rfl rfl rfl (by simp) h
theorem f_z2.ok:Callable prog f_z2:=callable_of Tryz.func70 (by kernel_rfl) rfl
def f_z2.live:Nat → Option (List Nat):=lvs [[1],[1,13],[2],[1,3],[1,3,4],[1,3,4,19],[1,3,4,19,20],[1,3,4,19,22],[1,3,4,19,24],[1,3,4,19,24],[1,3,4,19,27],[1,3,4,19,27],[1,3,4,19,27],[1,3,4,31],[1,3,4,5],[3,4],[3,4],[3,4],[3,4],[1,3,4],[1,3,4],[1,3,4],[1,3,4],[3,4],[3,4],[133],[2],[2]]
theorem f_z2.does (a0:Value) (h:exec prog W tab 134 f_z2.live (codeOf Tryz.f70) (bodyQ prog W tab [.tmp 2] R) (argFr 0 [a0]) [] H):Does prog W f_z2 ⟨[a0]⟩ H R :=
 Does.of_exec tab_ok f_z2.live Tryz.func70 rfl rfl rfl (by simp) h
theorem f_z33.ok:Callable prog f_z33:=callable_of Tryz.func71 (by kernel_rfl) rfl
def f_z33.live:Nat → Option (List Nat):=lvs [[1],[1,10],[2],[13],[2],[2]]
theorem f_z33.does (a0:Value) (h:exec prog W tab 14 f_z33.live (codeOf Tryz.f71) (bodyQ prog W tab [.tmp 2] R) (argFr 0 [a0]) [] H):Does prog W f_z33 ⟨[a0]⟩ H R :=
 Does.of_exec tab_ok f_z33.live Tryz.func71 rfl rfl rfl (by simp) h
theorem f_z26.ok:Callable prog f_z26:=callable_of Tryz.func72 (by kernel_rfl) rfl
def f_z26.live:Nat → Option (List Nat):=lvs [[1],[1,3],[3,7,8,9],[3,7,8,9,10],[3,4,5,7,8,9],[3,5,7,8,9,21],[3,7,8,9],[3,7,8,9],[2]]
theorem f_z26.does (a0:Value) (h:exec prog W tab 26 f_z26.live (codeOf Tryz.f72) (bodyQ prog W tab [.tmp 2] R) (argFr 0 [a0]) [] H):Does prog W f_z26 ⟨[a0]⟩ H R :=
 Does.of_exec tab_ok f_z26.live Tryz.func72 rfl rfl rfl (by simp) h
theorem f_z34.ok:Callable prog f_z34:=callable_of Tryz.func73 (by kernel_rfl) rfl
def f_z34.live:Nat → Option (List Nat):=lvs [[0],[0,9],[2,3],[2,3]]
theorem f_z34.does (a0:Value) (h:exec prog W tab 15 f_z34.live (codeOf Tryz.f73) (bodyQ prog W tab [.tmp 2,.tmp 3] R) (argFr 0 [a0]) [] H):Does prog W f_z34 ⟨[a0]⟩ H R :=
 Does.of_exec tab_ok f_z34.live Tryz.func73 rfl rfl rfl (by simp) h
theorem f_log_Open.ok:Callable prog f_log_Open:=callable_of Tryz.func74 (by kernel_rfl) rfl
def f_log_Open.live:Nat → Option (List Nat):=lvs [[3,4,5],[3,4,5,8],[8,9],[8,9,18],[6,7],[6,7]]
theorem f_log_Open.does (a0 a1 a2:Value) (h:exec prog W tab 21 f_log_Open.live (codeOf Tryz.f74) (bodyQ prog W tab [.tmp 6,.tmp 7] R) (argFr 0 [a0,a1,a2]) [] H):Does prog W f_log_Open ⟨[a0,a1,a2]⟩ H R :=
 Does.of_exec tab_ok f_log_Open.live Tryz.func74 rfl rfl rfl (by simp) h
theorem f_z27.ok:Callable prog f_z27:=callable_of Tryz.func75 (by kernel_rfl) rfl
def f_z27.live:Nat → Option (List Nat):=lvs [[0,1,5],[0,1,5,15],[6,7],[0,1,5,8,9],[0,1,5,28],[6,7],[6,7]]
theorem f_z27.does (a0 a1 a2:Value) (h:exec prog W tab 35 f_z27.live (codeOf Tryz.f75) (bodyQ prog W tab [.tmp 6,.tmp 7] R) (argFr 0 [a0,a1,a2]) [] H):Does prog W f_z27 ⟨[a0,a1,a2]⟩ H R :=
 Does.of_exec tab_ok f_z27.live Tryz.func75 rfl rfl rfl (by simp) h
theorem f_za.ok:Callable prog f_za:=callable_of Tryz.func76 (by kernel_rfl) rfl
def f_za.live:Nat → Option (List Nat):=lvs [[0,3],[0,3,13],[4,5],[0,3],[0,3,6],[0,3,6,24],[4,5],[0,3,28],[4,5],[0,3,7,8],[0,3,7,8,35],[4,5],[0,3,7],[3],[4,5]]
theorem f_za.does (a0 a1:Value) (h:exec prog W tab 60 f_za.live (codeOf Tryz.f76) (bodyQ prog W tab [.tmp 4,.tmp 5] R) (argFr 0 [a0,a1]) [] H):Does prog W f_za ⟨[a0,a1]⟩ H R :=
 Does.of_exec tab_ok f_za.live Tryz.func76 rfl rfl rfl (by simp) h
def f_za.plan12:List Nat:=[0,1,2,3,4,5,6,7,8,9,10,11]
def f_za.last12:List Nat:=[9,10,11]
theorem f_z1p.ok:Callable prog f_z1p:=callable_of Tryz.func77 (by kernel_rfl) rfl
def f_z1p.live:Nat → Option (List Nat):=lvs [[0,3],[4]]
theorem f_z1p.does (a0 a1:Value) (h:exec prog W tab 11 f_z1p.live (codeOf Tryz.f77) (bodyQ prog W tab [.tmp 4] R) (argFr 0 [a0,a1]) [] H):Does prog W f_z1p ⟨[a0,a1]⟩ H R :=
 Does.of_exec tab_ok f_z1p.live Tryz.func77 rfl rfl rfl (by simp) h
def f_z1p.plan1:List Nat:=[0,1,2,3,4,5,6]
def f_z1p.last1:List Nat:=[5,6]
theorem f_z35.ok:Callable prog f_z35:=callable_of Tryz.func78 (by kernel_rfl) rfl
def f_z35.live:Nat → Option (List Nat):=lvs [[0],[2]]
theorem f_z35.does (a0:Value) (h:exec prog W tab 7 f_z35.live (codeOf Tryz.f78) (bodyQ prog W tab [.tmp 2] R) (argFr 0 [a0]) [] H):Does prog W f_z35 ⟨[a0]⟩ H R :=
 Does.of_exec tab_ok f_z35.live Tryz.func78 rfl rfl rfl (by simp) h
theorem f_z4a.ok:Callable prog f_z4a:=callable_of Tryz.func79 (by kernel_rfl) rfl
def f_z4a.live:Nat → Option (List Nat):=lvs [[1,2],[2]]
theorem f_z4a.does (a0:Value) (h:exec prog W tab 16 f_z4a.live (codeOf Tryz.f79) (bodyQ prog W tab [.cell 2 24] R) (argFr 0 [a0]) [] H):Does prog W f_z4a ⟨[a0]⟩ H R :=
 Does.of_exec tab_ok f_z4a.live Tryz.func79 rfl rfl rfl (by simp) h
def f_z4a.plan1:List Nat:=[0,1,4,5,8,9,2,3,6,7,10,11,12,13]
def f_z4a.last1:List Nat:=[12,13]
theorem f_z3q.ok:Callable prog f_z3q:=callable_of Tryz.func80 (by kernel_rfl) rfl
def f_z3q.live:Nat → Option (List Nat):=lvs [[1],[1,6],[2,3],[2,3]]
theorem f_z3q.does (a0:Value) (h:exec prog W tab 14 f_z3q.live (codeOf Tryz.f80) (bodyQ prog W tab [.tmp 2,.tmp 3] R) (argFr 0 [a0]) [] H):Does prog W f_z3q ⟨[a0]⟩ H R :=
 Does.of_exec tab_ok f_z3q.live Tryz.func80 rfl rfl rfl (by simp) h
theorem f_master_Log.ok:Callable prog f_master_Log:=callable_of Tryz.func81 (by kernel_rfl) rfl
def f_master_Log.live:Nat → Option (List Nat):=lvs [[1],[1,6],[2,3],[2,3]]
theorem f_master_Log.does (a0:Value) (h:exec prog W tab 11 f_master_Log.live (codeOf Tryz.f81) (bodyQ prog W tab [.tmp 2,.tmp 3] R) (argFr 0 [a0]) [] H):Does prog W f_master_Log ⟨[a0]⟩ H R :=
 Does.of_exec tab_ok f_master_Log.live Tryz.func81 rfl rfl rfl (by simp) h
theorem f_z4p.ok:Callable prog f_z4p:=callable_of Tryz.func82 (by kernel_rfl) rfl
def f_z4p.live:Nat → Option (List Nat):=lvs [[0,1],[1,5,6],[1,5,6,14],[1,6],[4]]
theorem f_z4p.does (a0 a1:Value) (h:exec prog W tab 25 f_z4p.live (codeOf Tryz.f82) (bodyQ prog W tab [.tmp 4] R) (argFr 0 [a0,a1]) [] H):Does prog W f_z4p ⟨[a0,a1]⟩ H R :=
 Does.of_exec tab_ok f_z4p.live Tryz.func82 rfl rfl rfl (by simp) h
theorem f_z4q.ok:Callable prog f_z4q:=callable_of Tryz.func83 (by kernel_rfl) rfl
def f_z4q.live:Nat → Option (List Nat):=lvs [[0,1,2,3],[0,1,2,3,12],[8],[1,2,3,15],[1,2,3,17,18],[1,2,3,9],[3,9,36],[8],[3,40],[3,42,43],[3,10],[8],[8]]
theorem f_z4q.does (a0 a1 a2 a3:Value) (h:exec prog W tab 48 f_z4q.live (codeOf Tryz.f83) (bodyQ prog W tab [.tmp 8] R) (argFr 0 [a0,a1,a2,a3]) [] H):Does prog W f_z4q ⟨[a0,a1,a2,a3]⟩ H R :=
 Does.of_exec tab_ok f_z4q.live Tryz.func83 rfl rfl rfl (by simp) h
theorem f_z4r.ok:Callable prog f_z4r:=callable_of Tryz.func85 (by kernel_rfl) rfl
def f_z4r.live:Nat → Option (List Nat):=lvs [[0,1],[0,1,6],[0,1,6,14],[1,6],[4]]
theorem f_z4r.does (a0 a1:Value) (h:exec prog W tab 21 f_z4r.live (codeOf Tryz.f85) (bodyQ prog W tab [.tmp 4] R) (argFr 0 [a0,a1]) [] H):Does prog W f_z4r ⟨[a0,a1]⟩ H R :=
 Does.of_exec tab_ok f_z4r.live Tryz.func85 rfl rfl rfl (by simp) h
theorem f_z4.ok:Callable prog f_z4:=callable_of Tryz.func86 (by kernel_rfl) rfl
def f_z4.live:Nat → Option (List Nat):=lvs [[2,3],[2,3,10],[4],[2,3,25],[4],[2,3,35],[4],[2,3,5],[2,3,5,39],[5],[4],[2,3],[],[4]]
theorem f_z4.does (a0 a1:Value) (h:exec prog W tab 63 f_z4.live (codeOf Tryz.f86) (bodyQ prog W tab [.tmp 4] R) (argFr 0 [a0,a1]) [] H):Does prog W f_z4 ⟨[a0,a1]⟩ H R :=
 Does.of_exec tab_ok f_z4.live Tryz.func86 rfl rfl rfl (by simp) h
def f_z4.plan3:List Nat:=[0,1,2,3,4,5,6,7,8,9,10]
def f_z4.last3:List Nat:=[9,10]
def f_z4.plan5:List Nat:=[0,1,2,3,4,5]
def f_z4.last5:List Nat:=[5]
def f_z4.plan11:List Nat:=[0,1,2,3,4,5,6,7,8,9,10,11,12,13,14]
def f_z4.last11:List Nat:=[12,13,14]
theorem f_zo.ok:Callable prog f_zo:=callable_of Tryz.func87 (by kernel_rfl) rfl
def f_zo.live:Nat → Option (List Nat):=lvs [[0,1],[0,1,8],[4],[19],[4],[4]]
theorem f_zo.does (a0 a1:Value) (h:exec prog W tab 20 f_zo.live (codeOf Tryz.f87) (bodyQ prog W tab [.tmp 4] R) (argFr 0 [a0,a1]) [] H):Does prog W f_zo ⟨[a0,a1]⟩ H R :=
 Does.of_exec tab_ok f_zo.live Tryz.func87 rfl rfl rfl (by simp) h
theorem f_z4s.ok:Callable prog f_z4s:=callable_of Tryz.func88 (by kernel_rfl) rfl
def f_z4s.live:Nat → Option (List Nat):=lvs [[0,1],[0,1,6],[0,1,6,12],[4,5],[7],[7,21],[4,5],[4,5]]
theorem f_z4s.does (a0 a1:Value) (h:exec prog W tab 23 f_z4s.live (codeOf Tryz.f88) (bodyQ prog W tab [.tmp 4,.tmp 5] R) (argFr 0 [a0,a1]) [] H):Does prog W f_z4s ⟨[a0,a1]⟩ H R :=
 Does.of_exec tab_ok f_z4s.live Tryz.func88 rfl rfl rfl (by simp) h
theorem f_z3r.ok:Callable prog f_z3r:=callable_of Tryz.func89 (by kernel_rfl) rfl
def f_z3r.live:Nat → Option (List Nat):=lvs [[0,1],[0,1,5],[0,1,5,10],[4],[],[4]]
theorem f_z3r.does (a0 a1:Value) (h:exec prog W tab 17 f_z3r.live (codeOf Tryz.f89) (bodyQ prog W tab [.tmp 4] R) (argFr 0 [a0,a1]) [] H):Does prog W f_z3r ⟨[a0,a1]⟩ H R :=
 Does.of_exec tab_ok f_z3r.live Tryz.func89 rfl rfl rfl (by simp) h
theorem f_z36.ok:Callable prog f_z36:=callable_of Tryz.func90 (by kernel_rfl) rfl
def f_z36.live:Nat → Option (List Nat):=lvs [[0,1,2],[0,1,2,8],[6],[6]]
theorem f_z36.does (a0 a1 a2:Value) (h:exec prog W tab 16 f_z36.live (codeOf Tryz.f90) (bodyQ prog W tab [.tmp 6] R) (argFr 0 [a0,a1,a2]) [] H):Does prog W f_z36 ⟨[a0,a1,a2]⟩ H R :=
 Does.of_exec tab_ok f_z36.live Tryz.func90 rfl rfl rfl (by simp) h
theorem f_z3s.ok:Callable prog f_z3s:=callable_of Tryz.func91 (by kernel_rfl) rfl
def f_z3s.live:Nat → Option (List Nat):=lvs [[0,1],[0,1,9],[4],[0,1,11],[0,1],[0,1,5],[0,1,5,6],[0,1,5,6,23],[0,1,5,6],[0,1,5,7],[0,1,5,7,35],[0,1,5,7],[4]]
theorem f_z3s.does (a0 a1:Value) (h:exec prog W tab 42 f_z3s.live (codeOf Tryz.f91) (bodyQ prog W tab [.tmp 4] R) (argFr 0 [a0,a1]) [] H):Does prog W f_z3s ⟨[a0,a1]⟩ H R :=
 Does.of_exec tab_ok f_z3s.live Tryz.func91 rfl rfl rfl (by simp) h
theorem f_z37.ok:Callable prog f_z37:=callable_of Tryz.func92 (by kernel_rfl) rfl
def f_z37.live:Nat → Option (List Nat):=lvs [[1],[2]]
theorem f_z37.does (a0:Value) (h:exec prog W tab 31 f_z37.live (codeOf Tryz.f92) (bodyQ prog W tab [.tmp 2] R) (argFr 0 [a0]) [] H):Does prog W f_z37 ⟨[a0]⟩ H R :=
 Does.of_exec tab_ok f_z37.live Tryz.func92 rfl rfl rfl (by simp) h
noncomputable abbrev f_zt.def:Func:=Tryz.f93
theorem f_zt.fn:prog.funcs[f_zt]? = some f_zt.def:=Tryz.func93
theorem f_zt.ok:Callable prog f_zt:=callable_of Tryz.func93 (by kernel_rfl) rfl
def f_zt.live:Nat → Option (List Nat):=lvs [[]]
theorem f_zt.does (a0:Value) (h:exec prog W tab 3 f_zt.live (codeOf Tryz.f93) (bodyQ prog W tab [] R) (argFr 0 [a0]) [] H):Does prog W f_zt ⟨[a0]⟩ H R :=
 Does.of_exec tab_ok f_zt.live Tryz.func93 rfl rfl rfl (by simp) h
theorem f_z1x.ok:Callable prog f_z1x:=callable_of Tryz.func94 (by kernel_rfl) rfl
def f_z1x.live:Nat → Option (List Nat):=lvs [[0,1,4],[0,1,4,7],[0,1,4,7,8],[],[4],[0,1,4,10,11],[0,6],[4],[4]]
theorem f_z1x.does (a0 a1:Value) (h:exec prog W tab 20 f_z1x.live (codeOf Tryz.f94) (bodyQ prog W tab [.tmp 4] R) (argFr 0 [a0,a1]) [] H):Does prog W f_z1x ⟨[a0,a1]⟩ H R :=
 Does.of_exec tab_ok f_z1x.live Tryz.func94 rfl rfl rfl (by simp) h
theorem f_zz.ok:Callable prog f_zz:=callable_of Tryz.func95 (by kernel_rfl) rfl
def f_zz.live:Nat → Option (List Nat):=lvs [[0],[]]
theorem f_zz.does (a0:Value) (h:exec prog W tab 9 f_zz.live (codeOf Tryz.f95) (bodyQ prog W tab [] R) (argFr 0 [a0]) [] H):Does prog W f_zz ⟨[a0]⟩ H R :=
 Does.of_exec tab_ok f_zz.live Tryz.func95 rfl rfl rfl (by simp) h
theorem f_zh.ok:Callable prog f_zh:=callable_of Tryz.func96 (by kernel_rfl) rfl
def f_zh.live:Nat → Option (List Nat):=lvs [[1,5],[]]
theorem f_zh.does (a0 a1:Value) (h:exec prog W tab 9 f_zh.live (codeOf Tryz.f96) (bodyQ prog W tab [] R) (argFr 0 [a0,a1]) [] H):Does prog W f_zh ⟨[a0,a1]⟩ H R :=
 Does.of_exec tab_ok f_zh.live Tryz.func96 rfl rfl rfl (by simp) h
theorem f_z1e.ok:Callable prog f_z1e:=callable_of Tryz.func97 (by kernel_rfl) rfl
def f_z1e.live:Nat → Option (List Nat):=lvs [[0,1,2],[6]]
theorem f_z1e.does (a0 a1 a2:Value) (h:exec prog W tab 23 f_z1e.live (codeOf Tryz.f97) (bodyQ prog W tab [.tmp 6] R) (argFr 0 [a0,a1,a2]) [] H):Does prog W f_z1e ⟨[a0,a1,a2]⟩ H R :=
 Does.of_exec tab_ok f_z1e.live Tryz.func97 rfl rfl rfl (by simp) h
theorem f_twin_get.ok:Callable prog f_twin_get:=callable_of Tryz.func98 (by kernel_rfl) rfl
def f_twin_get.live:Nat → Option (List Nat):=lvs [[0,1],[5,6],[5],[4]]
theorem f_twin_get.does (a0 a1:Value) (h:exec prog W tab 16 f_twin_get.live (codeOf Tryz.f98) (bodyQ prog W tab [.tmp 4] R) (argFr 0 [a0,a1]) [] H):Does prog W f_twin_get ⟨[a0,a1]⟩ H R :=
 Does.of_exec tab_ok f_twin_get.live Tryz.func98 rfl rfl rfl (by simp) h
theorem f_page_in.ok:Callable prog f_page_in:=callable_of Tryz.func99 (by kernel_rfl) rfl
def f_page_in.live:Nat → Option (List Nat):=lvs [[0,1,2],[6]]
theorem f_page_in.does (a0 a1 a2:Value) (h:exec prog W tab 15 f_page_in.live (codeOf Tryz.f99) (bodyQ prog W tab [.tmp 6] R) (argFr 0 [a0,a1,a2]) [] H):Does prog W f_page_in ⟨[a0,a1,a2]⟩ H R :=
 Does.of_exec tab_ok f_page_in.live Tryz.func99 rfl rfl rfl (by simp) h
theorem f_zf.ok:Callable prog f_zf:=callable_of Tryz.func100 (by kernel_rfl) rfl
def f_zf.live:Nat → Option (List Nat):=lvs [[0],[2]]
theorem f_zf.does (a0:Value) (h:exec prog W tab 6 f_zf.live (codeOf Tryz.f100) (bodyQ prog W tab [.tmp 2] R) (argFr 0 [a0]) [] H):Does prog W f_zf ⟨[a0]⟩ H R :=
 Does.of_exec tab_ok f_zf.live Tryz.func100 rfl rfl rfl (by simp) h
theorem f_zu.ok:Callable prog f_zu:=callable_of Tryz.func101 (by kernel_rfl) rfl
def f_zu.live:Nat → Option (List Nat):=lvs [[0,1,2],[0,1,2,7],[0,1,7,12,13,14],[0,1,7,12,13,14,15],[0,1,7,9,12,13,14],[0,1,7,9,10,12,13,14],[0,1,7,9,12,13,14],[0,1,7,12,13,14],[0,1,7,12,13,14],[6]]
theorem f_zu.does (a0 a1 a2:Value) (h:exec prog W tab 34 f_zu.live (codeOf Tryz.f101) (bodyQ prog W tab [.tmp 6] R) (argFr 0 [a0,a1,a2]) [] H):Does prog W f_zu ⟨[a0,a1,a2]⟩ H R :=
 Does.of_exec tab_ok f_zu.live Tryz.func101 rfl rfl rfl (by simp) h
theorem f_zv.ok:Callable prog f_zv:=callable_of Tryz.func102 (by kernel_rfl) rfl
def f_zv.live:Nat → Option (List Nat):=lvs [[0,1,2],[0,1,2,15],[6,7],[0,1,2,8],[0,1,8,16,17],[0,1,8,16,17,18],[0,1,8,9,16,17],[0,1,8,16,17],[0,1,8,16,17],[6,7]]
theorem f_zv.does (a0 a1 a2:Value) (h:exec prog W tab 34 f_zv.live (codeOf Tryz.f102) (bodyQ prog W tab [.tmp 6,.tmp 7] R) (argFr 0 [a0,a1,a2]) [] H):Does prog W f_zv ⟨[a0,a1,a2]⟩ H R :=
 Does.of_exec tab_ok f_zv.live Tryz.func102 rfl rfl rfl (by simp) h
theorem f_zi.ok:Callable prog f_zi:=callable_of Tryz.func103 (by kernel_rfl) rfl
def f_zi.live:Nat → Option (List Nat):=lvs [[0],[2]]
theorem f_zi.does (a0:Value) (h:exec prog W tab 10 f_zi.live (codeOf Tryz.f103) (bodyQ prog W tab [.tmp 2] R) (argFr 0 [a0]) [] H):Does prog W f_zi ⟨[a0]⟩ H R :=
 Does.of_exec tab_ok f_zi.live Tryz.func103 rfl rfl rfl (by simp) h
def f_zi.plan1:List Nat:=[0,1,3,4,2,5,6,7]
def f_zi.last1:List Nat:=[5,6,7]
theorem f_zp.ok:Callable prog f_zp:=callable_of Tryz.func104 (by kernel_rfl) rfl
def f_zp.live:Nat → Option (List Nat):=lvs [[1],[1,8,9,10],[1,8,9,10,11],[1,4,8,9,10],[1,4,8,9,10,23],[2],[1,8,9,10,30],[2],[1,8,9,10],[33,34,35],[33,34,35,36],[6,33,34,35],[33,34,35,42],[2],[33,34,35],[2]]
theorem f_zp.does (a0:Value) (h:exec prog W tab 44 f_zp.live (codeOf Tryz.f104) (bodyQ prog W tab [.tmp 2] R) (argFr 0 [a0]) [] H):Does prog W f_zp ⟨[a0]⟩ H R :=
 Does.of_exec tab_ok f_zp.live Tryz.func104 rfl rfl rfl (by simp) h
theorem f_z16.ok:Callable prog f_z16:=callable_of Tryz.func105 (by kernel_rfl) rfl
def f_z16.live:Nat → Option (List Nat):=lvs [[0,1],[0,1,10],[4],[0,1,5],[0,1,5,14],[0,1,5],[0,1,5,25],[4],[4]]
theorem f_z16.does (a0 a1:Value) (h:exec prog W tab 26 f_z16.live (codeOf Tryz.f105) (bodyQ prog W tab [.tmp 4] R) (argFr 0 [a0,a1]) [] H):Does prog W f_z16 ⟨[a0,a1]⟩ H R :=
 Does.of_exec tab_ok f_z16.live Tryz.func105 rfl rfl rfl (by simp) h
def f_z16.plan6:List Nat:=[0,1,2,3,4,5,6,7,8]
def f_z16.last6:List Nat:=[8]
theorem f_z1f.ok:Callable prog f_z1f:=callable_of Tryz.func106 (by kernel_rfl) rfl
def f_z1f.live:Nat → Option (List Nat):=lvs [[0,1],[0,1,10],[4],[0,1,5],[0,1,5,14],[0,1,5],[0,1,5,25],[4],[4]]
theorem f_z1f.does (a0 a1:Value) (h:exec prog W tab 26 f_z1f.live (codeOf Tryz.f106) (bodyQ prog W tab [.tmp 4] R) (argFr 0 [a0,a1]) [] H):Does prog W f_z1f ⟨[a0,a1]⟩ H R :=
 Does.of_exec tab_ok f_z1f.live Tryz.func106 rfl rfl rfl (by simp) h
def f_z1f.plan6:List Nat:=[0,1,2,3,4,5,6,7,8]
def f_z1f.last6:List Nat:=[8]
theorem f_z3t.ok:Callable prog f_z3t:=callable_of Tryz.func107 (by kernel_rfl) rfl
def f_z3t.live:Nat → Option (List Nat):=lvs [[0],[3],[3],[2]]
theorem f_z3t.does (a0:Value) (h:exec prog W tab 9 f_z3t.live (codeOf Tryz.f107) (bodyQ prog W tab [.tmp 2] R) (argFr 0 [a0]) [] H):Does prog W f_z3t ⟨[a0]⟩ H R :=
 Does.of_exec tab_ok f_z3t.live Tryz.func107 rfl rfl rfl (by simp) h
theorem f_z3u.ok:Callable prog f_z3u:=callable_of Tryz.func108 (by kernel_rfl) rfl
def f_z3u.live:Nat → Option (List Nat):=lvs [[1],[2]]
theorem f_z3u.does (a0:Value) (h:exec prog W tab 4 f_z3u.live (codeOf Tryz.f108) (bodyQ prog W tab [.tmp 2] R) (argFr 0 [a0]) [] H):Does prog W f_z3u ⟨[a0]⟩ H R :=
 Does.of_exec tab_ok f_z3u.live Tryz.func108 rfl rfl rfl (by simp) h
theorem f_z17.ok:Callable prog f_z17:=callable_of Tryz.func109 (by kernel_rfl) rfl
def f_z17.live:Nat → Option (List Nat):=lvs [[0,1],[0,1,6],[0,1,6,22],[4,5],[0,1,7],[0,1,7,31],[7],[4,5],[0,1,46],[0,1,8,9],[0,1,8,53],[4,5],[0,1,10],[0,1,10,58],[4,5],[0,1,11,12],[0,1,11,12,70],[4,5],[0,1,13,14],[0,1,13,15],[0,1,13,15,85],[4,5],[0,1,12,16],[0,1,12,16,94],[4,5],[0,1,17],[0,17],[17],[4,5]]
theorem f_z17.does (a0 a1:Value) (h:exec prog W tab 109 f_z17.live (codeOf Tryz.f109) (bodyQ prog W tab [.tmp 4,.tmp 5] R) (argFr 0 [a0,a1]) [] H):Does prog W f_z17 ⟨[a0,a1]⟩ H R :=
 Does.of_exec tab_ok f_z17.live Tryz.func109 rfl rfl rfl (by simp) h
def f_z17.plan8:List Nat:=[0,1,2,3,4,5,6,7,8,9,10]
def f_z17.last8:List Nat:=[10]
theorem f_z1y.ok:Callable prog f_z1y:=callable_of Tryz.func110 (by kernel_rfl) rfl
def f_z1y.live:Nat → Option (List Nat):=lvs [[1,2],[1,2,3],[2,3],[2]]
theorem f_z1y.does (a0:Value) (h:exec prog W tab 14 f_z1y.live (codeOf Tryz.f110) (bodyQ prog W tab [.cell 2 57] R) (argFr 0 [a0]) [] H):Does prog W f_z1y ⟨[a0]⟩ H R :=
 Does.of_exec tab_ok f_z1y.live Tryz.func110 rfl rfl rfl (by simp) h
def f_z1y.plan2:List Nat:=[0,1,3,4,2,6,5,7,8,9]
def f_z1y.last2:List Nat:=[7,8,9]
theorem f_z4t.ok:Callable prog f_z4t:=callable_of Tryz.func117 (by kernel_rfl) rfl
def f_z4t.live:Nat → Option (List Nat):=lvs [[1,2],[2]]
theorem f_z4t.does (a0:Value) (h:exec prog W tab 12 f_z4t.live (codeOf Tryz.f117) (bodyQ prog W tab [.cell 2 57] R) (argFr 0 [a0]) [] H):Does prog W f_z4t ⟨[a0]⟩ H R :=
 Does.of_exec tab_ok f_z4t.live Tryz.func117 rfl rfl rfl (by simp) h
theorem f_z4u.ok:Callable prog f_z4u:=callable_of Tryz.func129 (by kernel_rfl) rfl
def f_z4u.live:Nat → Option (List Nat):=lvs [[0],[2]]
theorem f_z4u.does (a0:Value) (h:exec prog W tab 7 f_z4u.live (codeOf Tryz.f129) (bodyQ prog W tab [.tmp 2] R) (argFr 0 [a0]) [] H):Does prog W f_z4u ⟨[a0]⟩ H R :=
 Does.of_exec tab_ok f_z4u.live Tryz.func129 rfl rfl rfl (by simp) h
theorem f_z1z.ok:Callable prog f_z1z:=callable_of Tryz.func134 (by kernel_rfl) rfl
def f_z1z.live:Nat → Option (List Nat):=lvs [[0],[0,3],[3,9,10,11],[3,9,10,11,12],[3,5,9,10,11],[3,9,10,11],[3,9,10,11],[2]]
theorem f_z1z.does (a0:Value) (h:exec prog W tab 26 f_z1z.live (codeOf Tryz.f134) (bodyQ prog W tab [.tmp 2] R) (argFr 0 [a0]) [] H):Does prog W f_z1z ⟨[a0]⟩ H R :=
 Does.of_exec tab_ok f_z1z.live Tryz.func134 rfl rfl rfl (by simp) h
def f_z1z.plan5:List Nat:=[0,1,2,3,4,5,6,7,8,9]
def f_z1z.last5:List Nat:=[8,9]
theorem f_z38.ok:Callable prog f_z38:=callable_of Tryz.func136 (by kernel_rfl) rfl
def f_z38.live:Nat → Option (List Nat):=lvs [[0],[0,4],[2],[2]]
theorem f_z38.does (a0:Value) (h:exec prog W tab 8 f_z38.live (codeOf Tryz.f136) (bodyQ prog W tab [.tmp 2] R) (argFr 0 [a0]) [] H):Does prog W f_z38 ⟨[a0]⟩ H R :=
 Does.of_exec tab_ok f_z38.live Tryz.func136 rfl rfl rfl (by simp) h
theorem f_zj.ok:Callable prog f_zj:=callable_of Tryz.func137 (by kernel_rfl) rfl
def f_zj.live:Nat → Option (List Nat):=lvs [[0,3],[0,3,10,11,12],[0,3,10,11,12,13],[0,3,5,6,10,11,12],[0,3,5,6,10,11,12,17],[0,3,10,11,12],[0,3,6,10,11,12,28],[0,3,10,11,12],[0,3,10,11,12],[0],[0],[0],[],[4]]
theorem f_zj.does (a0 a1:Value) (h:exec prog W tab 59 f_zj.live (codeOf Tryz.f137) (bodyQ prog W tab [.tmp 4] R) (argFr 0 [a0,a1]) [] H):Does prog W f_zj ⟨[a0,a1]⟩ H R :=
 Does.of_exec tab_ok f_zj.live Tryz.func137 rfl rfl rfl (by simp) h
def f_zj.plan5:List Nat:=[0,1,2,4,5,3,6]
def f_zj.last5:List Nat:=[6]
def f_zj.plan7:List Nat:=[0,1,2,4,5,6,7,8,9,10,3,11]
def f_zj.last7:List Nat:=[11]
theorem f_z4v.ok:Callable prog f_z4v:=callable_of Tryz.func138 (by kernel_rfl) rfl
def f_z4v.live:Nat → Option (List Nat):=lvs [[]]
theorem f_z4v.does (a0:Value) (h:exec prog W tab 3 f_z4v.live (codeOf Tryz.f138) (bodyQ prog W tab [] R) (argFr 0 [a0]) [] H):Does prog W f_z4v ⟨[a0]⟩ H R :=
 Does.of_exec tab_ok f_z4v.live Tryz.func138 rfl rfl rfl (by simp) h
theorem f_z39.ok:Callable prog f_z39:=callable_of Tryz.func139 (by kernel_rfl) rfl
def f_z39.live:Nat → Option (List Nat):=lvs [[0,1],[4]]
theorem f_z39.does (a0 a1:Value) (h:exec prog W tab 9 f_z39.live (codeOf Tryz.f139) (bodyQ prog W tab [.tmp 4] R) (argFr 0 [a0,a1]) [] H):Does prog W f_z39 ⟨[a0,a1]⟩ H R :=
 Does.of_exec tab_ok f_z39.live Tryz.func139 rfl rfl rfl (by simp) h
theorem f_z4w.ok:Callable prog f_z4w:=callable_of Tryz.func140 (by kernel_rfl) rfl
def f_z4w.live:Nat → Option (List Nat):=lvs [[0],[2]]
theorem f_z4w.does (a0:Value) (h:exec prog W tab 5 f_z4w.live (codeOf Tryz.f140) (bodyQ prog W tab [.tmp 2] R) (argFr 0 [a0]) [] H):Does prog W f_z4w ⟨[a0]⟩ H R :=
 Does.of_exec tab_ok f_z4w.live Tryz.func140 rfl rfl rfl (by simp) h
theorem f_z2r.ok:Callable prog f_z2r:=callable_of Tryz.func141 (by kernel_rfl) rfl
def f_z2r.live:Nat → Option (List Nat):=lvs [[0,1,2],[6]]
theorem f_z2r.does (a0 a1 a2:Value) (h:exec prog W tab 23 f_z2r.live (codeOf Tryz.f141) (bodyQ prog W tab [.tmp 6] R) (argFr 0 [a0,a1,a2]) [] H):Does prog W f_z2r ⟨[a0,a1,a2]⟩ H R :=
 Does.of_exec tab_ok f_z2r.live Tryz.func141 rfl rfl rfl (by simp) h
theorem f_z28.ok:Callable prog f_z28:=callable_of Tryz.func142 (by kernel_rfl) rfl
def f_z28.live:Nat → Option (List Nat):=lvs [[0,1,2,6],[0,1,2,6,11],[0,1,2,6],[0,1,2,6],[]]
theorem f_z28.does (a0 a1 a2:Value) (h:exec prog W tab 30 f_z28.live (codeOf Tryz.f142) (bodyQ prog W tab [] R) (argFr 0 [a0,a1,a2]) [] H):Does prog W f_z28 ⟨[a0,a1,a2]⟩ H R :=
 Does.of_exec tab_ok f_z28.live Tryz.func142 rfl rfl rfl (by simp) h
theorem f_z4x.ok:Callable prog f_z4x:=callable_of Tryz.func143 (by kernel_rfl) rfl
def f_z4x.live:Nat → Option (List Nat):=lvs [[0],[0,17],[2,3],[2,3]]
theorem f_z4x.does (a0:Value) (h:exec prog W tab 22 f_z4x.live (codeOf Tryz.f143) (bodyQ prog W tab [.tmp 2,.tmp 3] R) (argFr 0 [a0]) [] H):Does prog W f_z4x ⟨[a0]⟩ H R :=
 Does.of_exec tab_ok f_z4x.live Tryz.func143 rfl rfl rfl (by simp) h
theorem f_z4y.ok:Callable prog f_z4y:=callable_of Tryz.func144 (by kernel_rfl) rfl
def f_z4y.live:Nat → Option (List Nat):=lvs [[0],[2]]
theorem f_z4y.does (a0:Value) (h:exec prog W tab 9 f_z4y.live (codeOf Tryz.f144) (bodyQ prog W tab [.tmp 2] R) (argFr 0 [a0]) [] H):Does prog W f_z4y ⟨[a0]⟩ H R :=
 Does.of_exec tab_ok f_z4y.live Tryz.func144 rfl rfl rfl (by simp) h
theorem f_z20.ok:Callable prog f_z20:=callable_of Tryz.func145 (by kernel_rfl) rfl
def f_z20.live:Nat → Option (List Nat):=lvs [[0],[0,4],[2],[2]]
theorem f_z20.does (a0:Value) (h:exec prog W tab 8 f_z20.live (codeOf Tryz.f145) (bodyQ prog W tab [.tmp 2] R) (argFr 0 [a0]) [] H):Does prog W f_z20 ⟨[a0]⟩ H R :=
 Does.of_exec tab_ok f_z20.live Tryz.func145 rfl rfl rfl (by simp) h
theorem f_txns_New.ok:Callable prog f_txns_New:=callable_of Tryz.func168 (by kernel_rfl) rfl
def f_txns_New.live:Nat → Option (List Nat):=lvs [[0],[0,6],[2,3],[2,3]]
theorem f_txns_New.does (a0:Value) (h:exec prog W tab 11 f_txns_New.live (codeOf Tryz.f168) (bodyQ prog W tab [.tmp 2,.tmp 3] R) (argFr 0 [a0]) [] H):Does prog W f_txns_New ⟨[a0]⟩ H R :=
 Does.of_exec tab_ok f_txns_New.live Tryz.func168 rfl rfl rfl (by simp) h
theorem f_zb.ok:Callable prog f_zb:=callable_of Tryz.func169 (by kernel_rfl) rfl
def f_zb.live:Nat → Option (List Nat):=lvs [[0,1],[0,1],[0,1,9],[4],[4]]
theorem f_zb.does (a0 a1:Value) (h:exec prog W tab 14 f_zb.live (codeOf Tryz.f169) (bodyQ prog W tab [.tmp 4] R) (argFr 0 [a0,a1]) [] H):Does prog W f_zb ⟨[a0,a1]⟩ H R :=
 Does.of_exec tab_ok f_zb.live Tryz.func169 rfl rfl rfl (by simp) h
theorem f_z29.ok:Callable prog f_z29:=callable_of Tryz.func170 (by kernel_rfl) rfl
def f_z29.live:Nat → Option (List Nat):=lvs [[0,1],[0,1,6],[6,16,17,18],[6,16,17,18,19],[6,8,16,17,18],[6,9,16,17,18],[6,9,16,17,18,26],[9],[4,5],[6,16,17,18],[6,10],[6,10,32,33,34],[6,10,32,33,34,35],[6,10,12,32,33,34],[6,10,32,33,34],[6,10,32,33,34],[4,5]]
theorem f_z29.does (a0 a1:Value) (h:exec prog W tab 48 f_z29.live (codeOf Tryz.f170) (bodyQ prog W tab [.tmp 4,.tmp 5] R) (argFr 0 [a0,a1]) [] H):Does prog W f_z29 ⟨[a0,a1]⟩ H R :=
 Does.of_exec tab_ok f_z29.live Tryz.func170 rfl rfl rfl (by simp) h
theorem f_z3v.ok:Callable prog f_z3v:=callable_of Tryz.func171 (by kernel_rfl) rfl
def f_z3v.live:Nat → Option (List Nat):=lvs [[0,1],[0,1,9],[4,5],[0,1,22],[4,5],[0,1,6],[0,6],[6],[4,5]]
theorem f_z3v.does (a0 a1:Value) (h:exec prog W tab 43 f_z3v.live (codeOf Tryz.f171) (bodyQ prog W tab [.tmp 4,.tmp 5] R) (argFr 0 [a0,a1]) [] H):Does prog W f_z3v ⟨[a0,a1]⟩ H R :=
 Does.of_exec tab_ok f_z3v.live Tryz.func171 rfl rfl rfl (by simp) h
theorem f_z0.ok:Callable prog f_z0:=callable_of Tryz.func172 (by kernel_rfl) rfl
def f_z0.live:Nat → Option (List Nat):=lvs [[0,3],[0,3,14],[4],[0,3,16],[0,3,16,17],[0,3,16,17],[4],[0,3,20],[0,3,28],[4],[6],[4],[0,3,7,8],[0,3,7,8,9,10],[0,3,7,9,10,53],[4],[0,3,7,9,56],[4],[0,3,7,9,59],[4],[0,3,7,9,72],[4],[0,3,9],[0,3,9],[0,3],[0,3,93],[],[4]]
theorem f_z0.does (a0 a1:Value) (h:exec prog W tab 100 f_z0.live (codeOf Tryz.f172) (bodyQ prog W tab [.tmp 4] R) (argFr 0 [a0,a1]) [] H):Does prog W f_z0 ⟨[a0,a1]⟩ H R :=
 Does.of_exec tab_ok f_z0.live Tryz.func172 rfl rfl rfl (by simp) h
def f_z0.plan8:List Nat:=[0,1,2,3,4,5,6]
def f_z0.last8:List Nat:=[6]
def f_z0.plan13:List Nat:=[0,1,2,3,4,5,6,7,8,9,10,11,12]
def f_z0.last13:List Nat:=[12]
def f_z0.plan24:List Nat:=[0,1,2,3,4,5,6,7]
def f_z0.last24:List Nat:=[7]
def f_z0.plan26:List Nat:=[0,1,2,3,4,5,6]
def f_z0.last26:List Nat:=[6]
theorem f_z3a.ok:Callable prog f_z3a:=callable_of Tryz.func173 (by kernel_rfl) rfl
def f_z3a.live:Nat → Option (List Nat):=lvs [[0],[0,3],[0,3,11,12,13],[0,3,11,12,13,14],[0,3,5,11,12,13],[0,3,11,12,13],[0,3,11,12,13],[2]]
theorem f_z3a.does (a0:Value) (h:exec prog W tab 28 f_z3a.live (codeOf Tryz.f173) (bodyQ prog W tab [.tmp 2] R) (argFr 0 [a0]) [] H):Does prog W f_z3a ⟨[a0]⟩ H R :=
 Does.of_exec tab_ok f_z3a.live Tryz.func173 rfl rfl rfl (by simp) h
theorem f_zq.ok:Callable prog f_zq:=callable_of Tryz.func174 (by kernel_rfl) rfl
def f_zq.live:Nat → Option (List Nat):=lvs [[0,1,2],[6]]
theorem f_zq.does (a0 a1 a2:Value) (h:exec prog W tab 15 f_zq.live (codeOf Tryz.f174) (bodyQ prog W tab [.tmp 6] R) (argFr 0 [a0,a1,a2]) [] H):Does prog W f_zq ⟨[a0,a1,a2]⟩ H R :=
 Does.of_exec tab_ok f_zq.live Tryz.func174 rfl rfl rfl (by simp) h
theorem f_z2s.ok:Callable prog f_z2s:=callable_of Tryz.func175 (by kernel_rfl) rfl
def f_z2s.live:Nat → Option (List Nat):=lvs [[2,3],[4]]
theorem f_z2s.does (a0 a1:Value) (h:exec prog W tab 30 f_z2s.live (codeOf Tryz.f175) (bodyQ prog W tab [.tmp 4] R) (argFr 0 [a0,a1]) [] H):Does prog W f_z2s ⟨[a0,a1]⟩ H R :=
 Does.of_exec tab_ok f_z2s.live Tryz.func175 rfl rfl rfl (by simp) h
theorem f_z2t.ok:Callable prog f_z2t:=callable_of Tryz.func176 (by kernel_rfl) rfl
def f_z2t.live:Nat → Option (List Nat):=lvs [[1,2],[1,2,26],[4],[1,2,5],[1,2,5,28,29,30],[1,2,5,28,29,30,31],[1,2,5,7,28,29,30],[1,2,7,28,29,30,65],[4],[1,2,5,28,29,30],[1,2,5,28,29,30],[1,2,8],[1,8,70,71,72],[1,8,70,71,72,73],[1,8,10,70,71,72],[1,10,70,71,72,97],[4],[1,8,70,71,72],[1,8,70,71,72],[4]]
theorem f_z2t.does (a0 a1:Value) (h:exec prog W tab 101 f_z2t.live (codeOf Tryz.f176) (bodyQ prog W tab [.tmp 4] R) (argFr 0 [a0,a1]) [] H):Does prog W f_z2t ⟨[a0,a1]⟩ H R :=
 Does.of_exec tab_ok f_z2t.live Tryz.func176 rfl rfl rfl (by simp) h
theorem f_z1q.ok:Callable prog f_z1q:=callable_of Tryz.func177 (by kernel_rfl) rfl
def f_z1q.live:Nat → Option (List Nat):=lvs [[0,1],[4]]
theorem f_z1q.does (a0 a1:Value) (h:exec prog W tab 12 f_z1q.live (codeOf Tryz.f177) (bodyQ prog W tab [.tmp 4] R) (argFr 0 [a0,a1]) [] H):Does prog W f_z1q ⟨[a0,a1]⟩ H R :=
 Does.of_exec tab_ok f_z1q.live Tryz.func177 rfl rfl rfl (by simp) h
theorem f_z1g.ok:Callable prog f_z1g:=callable_of Tryz.func178 (by kernel_rfl) rfl
def f_z1g.live:Nat → Option (List Nat):=lvs [[1],[2]]
theorem f_z1g.does (a0:Value) (h:exec prog W tab 54 f_z1g.live (codeOf Tryz.f178) (bodyQ prog W tab [.tmp 2] R) (argFr 0 [a0]) [] H):Does prog W f_z1g ⟨[a0]⟩ H R :=
 Does.of_exec tab_ok f_z1g.live Tryz.func178 rfl rfl rfl (by simp) h
theorem f_z3w.ok:Callable prog f_z3w:=callable_of Tryz.func179 (by kernel_rfl) rfl
def f_z3w.live:Nat → Option (List Nat):=lvs [[1],[1,22],[2],[1,3],[1,3,4],[1,3,4,5],[1,3,4,5,6],[1,3,4,5,6,47],[1,3,4,5,6,47,48],[2],[1,3,4,5,6,47,60],[1,5,6,7],[2],[1,3,4,5,6,47,104],[1,3,4,5,6,47,104],[2],[1,3,4,47,125],[1,3,4,47,125],[1,3,4,125],[2],[2]]
theorem f_z3w.does (a0:Value) (h:exec prog W tab 156 f_z3w.live (codeOf Tryz.f179) (bodyQ prog W tab [.tmp 2] R) (argFr 0 [a0]) [] H):Does prog W f_z3w ⟨[a0]⟩ H R :=
 Does.of_exec tab_ok f_z3w.live Tryz.func179 rfl rfl rfl (by simp) h
theorem f_z2l.ok:Callable prog f_z2l:=callable_of Tryz.func180 (by kernel_rfl) rfl
def f_z2l.live:Nat → Option (List Nat):=lvs [[1,2,4],[1,4],[4],[4]]
theorem f_z2l.does (a0 a1:Value) (h:exec prog W tab 8 f_z2l.live (codeOf Tryz.f180) (bodyQ prog W tab [.cell 4 49] R) (argFr 0 [a0,a1]) [] H):Does prog W f_z2l ⟨[a0,a1]⟩ H R :=
 Does.of_exec tab_ok f_z2l.live Tryz.func180 rfl rfl rfl (by simp) h
theorem f_z10.ok:Callable prog f_z10:=callable_of Tryz.func181 (by kernel_rfl) rfl
def f_z10.live:Nat → Option (List Nat):=lvs [[0,1,2,3,8],[0,1,2,3],[0,1,2,3,12],[0,1,2,3],[0,1,2,3,34],[0,1,2,3],[0,1,2,3,41],[0,1,2,3],[0,1,2,3,4],[0,1,3,4,45,46],[0,1,3,4,45,46,47],[0,1,3,4,5,45,46],[0,1,3,4,6,7,45,46],[0,1,3,4,6,45,46],[0,1,3,4,45,46],[0,1,3,4,45,46],[3,4],[]]
theorem f_z10.does (a0 a1 a2 a3:Value) (h:exec prog W tab 71 f_z10.live (codeOf Tryz.f181) (bodyQ prog W tab [] R) (argFr 0 [a0,a1,a2,a3]) [] H):Does prog W f_z10 ⟨[a0,a1,a2,a3]⟩ H R :=
 Does.of_exec tab_ok f_z10.live Tryz.func181 rfl rfl rfl (by simp) h
def f_z10.plan2:List Nat:=[0,1,2,3,4,5,6,7,8,9,10,11,12,13,14,16,15,17,18,19,20]
def f_z10.last2:List Nat:=[18,19,20]
def f_z10.plan16:List Nat:=[0,1,2,3]
def f_z10.last16:List Nat:=[3]
theorem f_zw.ok:Callable prog f_zw:=callable_of Tryz.func182 (by kernel_rfl) rfl
def f_zw.live:Nat → Option (List Nat):=lvs [[0,3],[]]
theorem f_zw.does (a0:Value) (h:exec prog W tab 7 f_zw.live (codeOf Tryz.f182) (bodyQ prog W tab [] R) (argFr 0 [a0]) [] H):Does prog W f_zw ⟨[a0]⟩ H R :=
 Does.of_exec tab_ok f_zw.live Tryz.func182 rfl rfl rfl (by simp) h
theorem f_z1h.ok:Callable prog f_z1h:=callable_of Tryz.func183 (by kernel_rfl) rfl
def f_z1h.live:Nat → Option (List Nat):=lvs [[0],[2]]
theorem f_z1h.does (a0:Value) (h:exec prog W tab 9 f_z1h.live (codeOf Tryz.f183) (bodyQ prog W tab [.tmp 2] R) (argFr 0 [a0]) [] H):Does prog W f_z1h ⟨[a0]⟩ H R :=
 Does.of_exec tab_ok f_z1h.live Tryz.func183 rfl rfl rfl (by simp) h
theorem f_zx.ok:Callable prog f_zx:=callable_of Tryz.func184 (by kernel_rfl) rfl
def f_zx.live:Nat → Option (List Nat):=lvs [[0],[0,8],[2],[0,10],[2],[0,20,21,22],[0,20,21,22,23],[0,4,20,21,22],[0,20,21,22],[0,20,21,22],[],[2]]
theorem f_zx.does (a0:Value) (h:exec prog W tab 37 f_zx.live (codeOf Tryz.f184) (bodyQ prog W tab [.tmp 2] R) (argFr 0 [a0]) [] H):Does prog W f_zx ⟨[a0]⟩ H R :=
 Does.of_exec tab_ok f_zx.live Tryz.func184 rfl rfl rfl (by simp) h
def f_zx.plan8:List Nat:=[0,1,2,4,5,3,6]
def f_zx.last8:List Nat:=[6]
theorem f_zy.ok:Callable prog f_zy:=callable_of Tryz.func185 (by kernel_rfl) rfl
def f_zy.live:Nat → Option (List Nat):=lvs [[0,3,4,5,28],[0,3,4,5,8,28],[4,5],[0,3,4,5,13,28],[4,5],[0,3,4,5,26,28],[0,3,4,5,7],[0,3,4,5,7,32],[4,5],[4,5]]
theorem f_zy.does (a0 a1:Value) (h:exec prog W tab 40 f_zy.live (codeOf Tryz.f185) (bodyQ prog W tab [.cell 4 54,.cell 5 46] R) (argFr 0 [a0,a1]) [] H):Does prog W f_zy ⟨[a0,a1]⟩ H R :=
 Does.of_exec tab_ok f_zy.live Tryz.func185 rfl rfl rfl (by simp) h
def f_zy.plan3:List Nat:=[0,1,2,3,4,5,6,7,8]
def f_zy.last3:List Nat:=[6,7,8]
theorem f_z21.ok:Callable prog f_z21:=callable_of Tryz.func186 (by kernel_rfl) rfl
def f_z21.live:Nat → Option (List Nat):=lvs [[0,8,9,10],[0,8,9,10,11],[0,4,5,8,9,10],[0,4,6,7,8,9,10],[0,4,6,7,8,9,10],[0,4,6,7,8,9,10,24],[0,4,6,7,8,9,10],[0,4,6,8,9,10,28],[0,6,8,9,10],[0,8,9,10],[0,8,9,10],[]]
theorem f_z21.does (a0 a1:Value) (h:exec prog W tab 52 f_z21.live (codeOf Tryz.f186) (bodyQ prog W tab [] R) (argFr 0 [a0,a1]) [] H):Does prog W f_z21 ⟨[a0,a1]⟩ H R :=
 Does.of_exec tab_ok f_z21.live Tryz.func186 rfl rfl rfl (by simp) h
def f_z21.plan9:List Nat:=[0,1,2,3,4,5,6,7,8,9,10]
def f_z21.last9:List Nat:=[8,9,10]
theorem f_z2u.ok:Callable prog f_z2u:=callable_of Tryz.func187 (by kernel_rfl) rfl
def f_z2u.live:Nat → Option (List Nat):=lvs [[0],[0,3],[3,9,10,11],[3,9,10,11,12],[3,4,5,9,10,11],[3,4,5,6,9,10,11],[3,5,6,9,10,11,42],[3,5,6,9,10,11,46,47,48],[3,5,6,9,10,11,46,47,48,49],[3,5,6,8,9,10,11,46,47,48],[3,5,6,9,10,11,46,47,48,53],[3,5,6,9,10,11,46,47,48],[3,9,10,11],[3,9,10,11],[2]]
theorem f_z2u.does (a0:Value) (h:exec prog W tab 64 f_z2u.live (codeOf Tryz.f187) (bodyQ prog W tab [.tmp 2] R) (argFr 0 [a0]) [] H):Does prog W f_z2u ⟨[a0]⟩ H R :=
 Does.of_exec tab_ok f_z2u.live Tryz.func187 rfl rfl rfl (by simp) h
theorem f_z1i.ok:Callable prog f_z1i:=callable_of Tryz.func188 (by kernel_rfl) rfl
def f_z1i.live:Nat → Option (List Nat):=lvs [[0,1,4],[0,1,4,5],[0,1,4,5,16],[0,1,4,5],[0,1,4,5,24],[0,1,5],[0,1,4,5],[0,38],[]]
theorem f_z1i.does (a0 a1:Value) (h:exec prog W tab 45 f_z1i.live (codeOf Tryz.f188) (bodyQ prog W tab [] R) (argFr 0 [a0,a1]) [] H):Does prog W f_z1i ⟨[a0,a1]⟩ H R :=
 Does.of_exec tab_ok f_z1i.live Tryz.func188 rfl rfl rfl (by simp) h
def f_z1i.plan5:List Nat:=[0,1,2,3,4,5,6,7,8,9,10,11,12]
def f_z1i.last5:List Nat:=[11,12]
theorem f_z22.ok:Callable prog f_z22:=callable_of Tryz.func189 (by kernel_rfl) rfl
def f_z22.live:Nat → Option (List Nat):=lvs [[0],[2]]
theorem f_z22.does (a0:Value) (h:exec prog W tab 13 f_z22.live (codeOf Tryz.f189) (bodyQ prog W tab [.tmp 2] R) (argFr 0 [a0]) [] H):Does prog W f_z22 ⟨[a0]⟩ H R :=
 Does.of_exec tab_ok f_z22.live Tryz.func189 rfl rfl rfl (by simp) h
def f_z22.plan1:List Nat:=[0,1,2,3,4,5,6,7,8,9,10]
def f_z22.last1:List Nat:=[9,10]
theorem f_z2a.ok:Callable prog f_z2a:=callable_of Tryz.func190 (by kernel_rfl) rfl
def f_z2a.live:Nat → Option (List Nat):=lvs [[1],[1,4],[1,4,19],[2,3],[1,5],[1,5],[1,5,6,7],[1,5,7,31,32,33],[1,5,7,31,32,33,34],[1,5,7,9,31,32,33],[1,5,7,31,32,33],[1,5,7,31,32,33],[1,5,44,45,46],[1,5,44,45,46,47],[1,5,11,44,45,46],[1,5,44,45,46],[1,5,44,45,46],[1,5,58],[1,5],[1,5,68,69,70],[1,5,68,69,70,71],[1,5,13,68,69,70],[1,5,13,68,69,70],[1,5,13,68,69,70],[1,5,68,69,70],[1,5,68,69,70],[1,5],[5,98,99,100],[5,98,99,100,101],[5,15,98,99,100],[5,15,98,99,100],[5,98,99,100],[5,98,99,100],[2,3]]
theorem f_z2a.does (a0:Value) (h:exec prog W tab 117 f_z2a.live (codeOf Tryz.f190) (bodyQ prog W tab [.tmp 2,.tmp 3] R) (argFr 0 [a0]) [] H):Does prog W f_z2a ⟨[a0]⟩ H R :=
 Does.of_exec tab_ok f_z2a.live Tryz.func190 rfl rfl rfl (by simp) h
theorem f_log_own.ok:Callable prog f_log_own:=callable_of Tryz.func191 (by kernel_rfl) rfl
def f_log_own.live:Nat → Option (List Nat):=lvs [[1,2],[1,2],[1,2],[2]]
theorem f_log_own.does (a0:Value) (h:exec prog W tab 16 f_log_own.live (codeOf Tryz.f191) (bodyQ prog W tab [.cell 2 126] R) (argFr 0 [a0]) [] H):Does prog W f_log_own ⟨[a0]⟩ H R :=
 Does.of_exec tab_ok f_log_own.live Tryz.func191 rfl rfl rfl (by simp) h
theorem f_z7.ok:Callable prog f_z7:=callable_of Tryz.func192 (by kernel_rfl) rfl
def f_z7.live:Nat → Option (List Nat):=lvs [[0,3],[0,3,5],[0,3,5,14],[4],[0,3,7],[0,3,7,22],[4],[0,3,8],[0,3,8,32],[4],[0,3,8,50],[4],[0,3,8],[0,3,8,60],[0,8],[],[4]]
theorem f_z7.does (a0 a1:Value) (h:exec prog W tab 72 f_z7.live (codeOf Tryz.f192) (bodyQ prog W tab [.tmp 4] R) (argFr 0 [a0,a1]) [] H):Does prog W f_z7 ⟨[a0,a1]⟩ H R :=
 Does.of_exec tab_ok f_z7.live Tryz.func192 rfl rfl rfl (by simp) h
def f_z7.plan7:List Nat:=[0,1,2,3,4,5,6,7]
def f_z7.last7:List Nat:=[6,7]
def f_z7.plan10:List Nat:=[0,1,2,3,4,5,6,7,8,9,10,11,12,13,14,15,16,17]
def f_z7.last10:List Nat:=[16,17]
def f_z7.plan14:List Nat:=[0,1,2,3,4,5,6,7,8,9]
def f_z7.last14:List Nat:=[7,8,9]
theorem f_z2b.ok:Callable prog f_z2b:=callable_of Tryz.func194 (by kernel_rfl) rfl
def f_z2b.live:Nat → Option (List Nat):=lvs [[0,1],[0,1,5],[0,1,5,21],[4],[0,1,5,6],[0,1,5,6,35],[4],[0,1,5,7,8],[0,1,5,7,8,46],[4],[0,5,7,8,9],[0,5,7,8,9,58],[4],[5,10],[5,10,70],[4],[],[4]]
theorem f_z2b.does (a0 a1:Value) (h:exec prog W tab 78 f_z2b.live (codeOf Tryz.f194) (bodyQ prog W tab [.tmp 4] R) (argFr 0 [a0,a1]) [] H):Does prog W f_z2b ⟨[a0,a1]⟩ H R :=
 Does.of_exec tab_ok f_z2b.live Tryz.func194 rfl rfl rfl (by simp) h
def f_z2b.plan4:List Nat:=[0,1,2,3,4,5,6,7,8,9,10,11,12]
def f_z2b.last4:List Nat:=[11,12]
theorem f_z1j.ok:Callable prog f_z1j:=callable_of Tryz.func195 (by kernel_rfl) rfl
def f_z1j.live:Nat → Option (List Nat):=lvs [[0,1,2],[0,1,2,10],[0,1,2],[0,1,2],[]]
theorem f_z1j.does (a0 a1:Value) (h:exec prog W tab 47 f_z1j.live (codeOf Tryz.f195) (bodyQ prog W tab [] R) (argFr 0 [a0,a1]) [] H):Does prog W f_z1j ⟨[a0,a1]⟩ H R :=
 Does.of_exec tab_ok f_z1j.live Tryz.func195 rfl rfl rfl (by simp) h
def f_z1j.plan3:List Nat:=[0,1,2,3,4,5,6,7,8,9,10,11,12,13,14,15,16,17,18,19,20,21,22,23,24,25,26,27]
def f_z1j.last3:List Nat:=[26,27]
theorem f_z11.ok:Callable prog f_z11:=callable_of Tryz.func196 (by kernel_rfl) rfl
def f_z11.live:Nat → Option (List Nat):=lvs [[0,1,2],[0,1,2,8],[6],[0,1,2,13],[6],[0,1,2,22],[6],[0,1,2,7],[0,7],[0,41],[6],[6]]
theorem f_z11.does (a0 a1 a2:Value) (h:exec prog W tab 48 f_z11.live (codeOf Tryz.f196) (bodyQ prog W tab [.tmp 6] R) (argFr 0 [a0,a1,a2]) [] H):Does prog W f_z11 ⟨[a0,a1,a2]⟩ H R :=
 Does.of_exec tab_ok f_z11.live Tryz.func196 rfl rfl rfl (by simp) h
def f_z11.plan8:List Nat:=[0,1,2,3,4,5,6,7,8,9,10,11,12,13]
def f_z11.last8:List Nat:=[11,12,13]
theorem f_log_laid.ok:Callable prog f_log_laid:=callable_of Tryz.func197 (by kernel_rfl) rfl
def f_log_laid.live:Nat → Option (List Nat):=lvs [[0,1],[0,1,5],[0,1,5],[1,5],[1,5],[5],[5],[4]]
theorem f_log_laid.does (a0 a1:Value) (h:exec prog W tab 25 f_log_laid.live (codeOf Tryz.f197) (bodyQ prog W tab [.tmp 4] R) (argFr 0 [a0,a1]) [] H):Does prog W f_log_laid ⟨[a0,a1]⟩ H R :=
 Does.of_exec tab_ok f_log_laid.live Tryz.func197 rfl rfl rfl (by simp) h
theorem f_z3b.ok:Callable prog f_z3b:=callable_of Tryz.func201 (by kernel_rfl) rfl
def f_z3b.live:Nat → Option (List Nat):=lvs [[0,1,3,6],[0,1,3,6,19],[],[8],[0,1,3,6,9,10],[0,1,3,6,35],[8],[1,3,6,36],[],[8],[1,3,6,36,38,39],[1,3,6,11],[0,1,3,6],[0,1,3,6,43],[8],[1,3,6,36,45,46],[1,3,6,12],[1,3,6,48,49,50],[1,3,6,48,49,50,51],[1,3,6,14,48,49,50],[1,3,6,14,48,49,50,55],[1,3,6,48,49,50,60],[8],[1,3,6,48,49,50],[8]]
theorem f_z3b.does (a0 a1 a2 a3:Value) (h:exec prog W tab 62 f_z3b.live (codeOf Tryz.f201) (bodyQ prog W tab [.tmp 8] R) (argFr 0 [a0,a1,a2,a3]) [] H):Does prog W f_z3b ⟨[a0,a1,a2,a3]⟩ H R :=
 Does.of_exec tab_ok f_z3b.live Tryz.func201 rfl rfl rfl (by simp) h
theorem f_z1r.ok:Callable prog f_z1r:=callable_of Tryz.func202 (by kernel_rfl) rfl
def f_z1r.live:Nat → Option (List Nat):=lvs [[]]
theorem f_z1r.does (a0:Value) (h:exec prog W tab 6 f_z1r.live (codeOf Tryz.f202) (bodyQ prog W tab [] R) (argFr 0 [a0]) [] H):Does prog W f_z1r ⟨[a0]⟩ H R :=
 Does.of_exec tab_ok f_z1r.live Tryz.func202 rfl rfl rfl (by simp) h
theorem f_z3x.ok:Callable prog f_z3x:=callable_of Tryz.func203 (by kernel_rfl) rfl
def f_z3x.live:Nat → Option (List Nat):=lvs [[0],[2]]
theorem f_z3x.does (a0:Value) (h:exec prog W tab 5 f_z3x.live (codeOf Tryz.f203) (bodyQ prog W tab [.tmp 2] R) (argFr 0 [a0]) [] H):Does prog W f_z3x ⟨[a0]⟩ H R :=
 Does.of_exec tab_ok f_z3x.live Tryz.func203 rfl rfl rfl (by simp) h
theorem f_z3c.ok:Callable prog f_z3c:=callable_of Tryz.func204 (by kernel_rfl) rfl
def f_z3c.live:Nat → Option (List Nat):=lvs [[0,1,2],[6]]
theorem f_z3c.does (a0 a1 a2:Value) (h:exec prog W tab 29 f_z3c.live (codeOf Tryz.f204) (bodyQ prog W tab [.tmp 6] R) (argFr 0 [a0,a1,a2]) [] H):Does prog W f_z3c ⟨[a0,a1,a2]⟩ H R :=
 Does.of_exec tab_ok f_z3c.live Tryz.func204 rfl rfl rfl (by simp) h
theorem f_z2v.ok:Callable prog f_z2v:=callable_of Tryz.func205 (by kernel_rfl) rfl
def f_z2v.live:Nat → Option (List Nat):=lvs [[0],[0,3],[3,8,9,10],[3,8,9,10,11],[3,5,8,9,10],[3,8,9,10,14,15,16],[3,8,9,10,14,15,16,17],[3,7,8,9,10,14,15,16],[3,8,9,10,14,15,16],[3,8,9,10,14,15,16],[3,8,9,10,14,15,16],[3,8,9,10,14,15,16],[3,8,9,10],[2]]
theorem f_z2v.does (a0:Value) (h:exec prog W tab 42 f_z2v.live (codeOf Tryz.f205) (bodyQ prog W tab [.tmp 2] R) (argFr 0 [a0]) [] H):Does prog W f_z2v ⟨[a0]⟩ H R :=
 Does.of_exec tab_ok f_z2v.live Tryz.func205 rfl rfl rfl (by simp) h
theorem f_z4d.ok:Callable prog f_z4d:=callable_of Tryz.func208 (by kernel_rfl) rfl
def f_z4d.live:Nat → Option (List Nat):=lvs [[0,5],[0,5,7],[0,3,5],[0,5,13]]
theorem f_z4d.does (a0 a1:Value) (h:exec prog W tab 14 f_z4d.live (codeOf Tryz.f208) (bodyQ prog W tab [] R) (argFr 0 [a0,a1]) [] H):Does prog W f_z4d ⟨[a0,a1]⟩ H R :=
 Does.of_exec tab_ok f_z4d.live Tryz.func208 rfl rfl rfl (by simp) h
theorem f_z2c.ok:Callable prog f_z2c:=callable_of Tryz.func209 (by kernel_rfl) rfl
def f_z2c.live:Nat → Option (List Nat):=lvs [[0,1],[]]
theorem f_z2c.does (a0 a1:Value) (h:exec prog W tab 18 f_z2c.live (codeOf Tryz.f209) (bodyQ prog W tab [] R) (argFr 0 [a0,a1]) [] H):Does prog W f_z2c ⟨[a0,a1]⟩ H R :=
 Does.of_exec tab_ok f_z2c.live Tryz.func209 rfl rfl rfl (by simp) h
theorem f_zm.ok:Callable prog f_zm:=callable_of Tryz.func210 (by kernel_rfl) rfl
def f_zm.live:Nat → Option (List Nat):=lvs [[0],[0,4,5],[0,4,5,12],[0,4,5,12,14],[0,4,5,6,7,12],[0,4,5,6,12,42],[0,4,5,12],[2,3]]
theorem f_zm.does (a0:Value) (h:exec prog W tab 46 f_zm.live (codeOf Tryz.f210) (bodyQ prog W tab [.tmp 2,.tmp 3] R) (argFr 0 [a0]) [] H):Does prog W f_zm ⟨[a0]⟩ H R :=
 Does.of_exec tab_ok f_zm.live Tryz.func210 rfl rfl rfl (by simp) h
def f_zm.plan5:List Nat:=[0,1,2,3,4,5,6,7,8,9,10,11,12,13,14,15,16,17,18,19,20,21,22,23,24]
def f_zm.last5:List Nat:=[22,23,24]
theorem f_z1s.ok:Callable prog f_z1s:=callable_of Tryz.func211 (by kernel_rfl) rfl
def f_z1s.live:Nat → Option (List Nat):=lvs [[0,1],[0,5],[0,5,9],[0,5],[5],[4]]
theorem f_z1s.does (a0 a1:Value) (h:exec prog W tab 18 f_z1s.live (codeOf Tryz.f211) (bodyQ prog W tab [.tmp 4] R) (argFr 0 [a0,a1]) [] H):Does prog W f_z1s ⟨[a0,a1]⟩ H R :=
 Does.of_exec tab_ok f_z1s.live Tryz.func211 rfl rfl rfl (by simp) h
theorem f_z3d.ok:Callable prog f_z3d:=callable_of Tryz.func212 (by kernel_rfl) rfl
def f_z3d.live:Nat → Option (List Nat):=lvs [[0],[0,4],[2],[2]]
theorem f_z3d.does (a0:Value) (h:exec prog W tab 8 f_z3d.live (codeOf Tryz.f212) (bodyQ prog W tab [.tmp 2] R) (argFr 0 [a0]) [] H):Does prog W f_z3d ⟨[a0]⟩ H R :=
 Does.of_exec tab_ok f_z3d.live Tryz.func212 rfl rfl rfl (by simp) h
theorem f_z3e.ok:Callable prog f_z3e:=callable_of Tryz.func213 (by kernel_rfl) rfl
def f_z3e.live:Nat → Option (List Nat):=lvs [[0],[0,4],[2],[2]]
theorem f_z3e.does (a0:Value) (h:exec prog W tab 8 f_z3e.live (codeOf Tryz.f213) (bodyQ prog W tab [.tmp 2] R) (argFr 0 [a0]) [] H):Does prog W f_z3e ⟨[a0]⟩ H R :=
 Does.of_exec tab_ok f_z3e.live Tryz.func213 rfl rfl rfl (by simp) h
theorem f_z2w.ok:Callable prog f_z2w:=callable_of Tryz.func233 (by kernel_rfl) rfl
def f_z2w.live:Nat → Option (List Nat):=lvs [[1,2],[4]]
theorem f_z2w.does (a0 a1:Value) (h:exec prog W tab 24 f_z2w.live (codeOf Tryz.f233) (bodyQ prog W tab [.tmp 4] R) (argFr 0 [a0,a1]) [] H):Does prog W f_z2w ⟨[a0,a1]⟩ H R :=
 Does.of_exec tab_ok f_z2w.live Tryz.func233 rfl rfl rfl (by simp) h
theorem f_z2m.ok:Callable prog f_z2m:=callable_of Tryz.func234 (by kernel_rfl) rfl
def f_z2m.live:Nat → Option (List Nat):=lvs [[0,1],[4]]
theorem f_z2m.does (a0 a1:Value) (h:exec prog W tab 15 f_z2m.live (codeOf Tryz.f234) (bodyQ prog W tab [.tmp 4] R) (argFr 0 [a0,a1]) [] H):Does prog W f_z2m ⟨[a0,a1]⟩ H R :=
 Does.of_exec tab_ok f_z2m.live Tryz.func234 rfl rfl rfl (by simp) h
theorem f_z3f.ok:Callable prog f_z3f:=callable_of Tryz.func235 (by kernel_rfl) rfl
def f_z3f.live:Nat → Option (List Nat):=lvs [[0,1],[0,1,7,8],[0,1,7,8,9],[0,1,5,7,8],[0,1,5,7,8,16],[4],[0,1,7,8],[4]]
theorem f_z3f.does (a0 a1:Value) (h:exec prog W tab 19 f_z3f.live (codeOf Tryz.f235) (bodyQ prog W tab [.tmp 4] R) (argFr 0 [a0,a1]) [] H):Does prog W f_z3f ⟨[a0,a1]⟩ H R :=
 Does.of_exec tab_ok f_z3f.live Tryz.func235 rfl rfl rfl (by simp) h
theorem f_z4z.ok:Callable prog f_z4z:=callable_of Tryz.func240 (by kernel_rfl) rfl
def f_z4z.live:Nat → Option (List Nat):=lvs [[0,1,4],[0,1,4,6],[4,5],[0,1,4,13],[4,5],[4,5]]
theorem f_z4z.does (a0 a1:Value) (h:exec prog W tab 35 f_z4z.live (codeOf Tryz.f240) (bodyQ prog W tab [.cell 4 126,.tmp 5] R) (argFr 0 [a0,a1]) [] H):Does prog W f_z4z ⟨[a0,a1]⟩ H R :=
 Does.of_exec tab_ok f_z4z.live Tryz.func240 rfl rfl rfl (by simp) h
theorem f_txns_in.ok:Callable prog f_txns_in:=callable_of Tryz.func250 (by kernel_rfl) rfl
def f_txns_in.live:Nat → Option (List Nat):=lvs [[0,1,2],[6]]
theorem f_txns_in.does (a0 a1 a2:Value) (h:exec prog W tab 15 f_txns_in.live (codeOf Tryz.f250) (bodyQ prog W tab [.tmp 6] R) (argFr 0 [a0,a1,a2]) [] H):Does prog W f_txns_in ⟨[a0,a1,a2]⟩ H R :=
 Does.of_exec tab_ok f_txns_in.live Tryz.func250 rfl rfl rfl (by simp) h
theorem f_z2x.ok:Callable prog f_z2x:=callable_of Tryz.func251 (by kernel_rfl) rfl
def f_z2x.live:Nat → Option (List Nat):=lvs [[0,1],[0,9,10,11],[0,9,10,11,12],[0,6,9,10,11],[0,6,9,10,11,15],[4],[0,6,9,10,11,24],[4],[0,6,7,8,9,10,11],[0,6,9,10,11,47],[0,9,10,11],[0,9,10,11],[4]]
theorem f_z2x.does (a0 a1:Value) (h:exec prog W tab 54 f_z2x.live (codeOf Tryz.f251) (bodyQ prog W tab [.tmp 4] R) (argFr 0 [a0,a1]) [] H):Does prog W f_z2x ⟨[a0,a1]⟩ H R :=
 Does.of_exec tab_ok f_z2x.live Tryz.func251 rfl rfl rfl (by simp) h
theorem f_z3y.ok:Callable prog f_z3y:=callable_of Tryz.func252 (by kernel_rfl) rfl
def f_z3y.live:Nat → Option (List Nat):=lvs [[1],[2]]
theorem f_z3y.does (a0:Value) (h:exec prog W tab 4 f_z3y.live (codeOf Tryz.f252) (bodyQ prog W tab [.tmp 2] R) (argFr 0 [a0]) [] H):Does prog W f_z3y ⟨[a0]⟩ H R :=
 Does.of_exec tab_ok f_z3y.live Tryz.func252 rfl rfl rfl (by simp) h
theorem f_z5.ok:Callable prog f_z5:=callable_of Tryz.func253 (by kernel_rfl) rfl
def f_z5.live:Nat → Option (List Nat):=lvs [[0,2],[2,4],[2,4,5],[2,3],[2,4,8],[2,3],[2,4,11],[2,3],[2,4,14],[2,3],[2,17],[2,3],[2,3]]
theorem f_z5.does (a0:Value) (h:exec prog W tab 21 f_z5.live (codeOf Tryz.f253) (bodyQ prog W tab [.cell 2 351,.tmp 3] R) (argFr 0 [a0]) [] H):Does prog W f_z5 ⟨[a0]⟩ H R :=
 Does.of_exec tab_ok f_z5.live Tryz.func253 rfl rfl rfl (by simp) h
theorem f_z3g.ok:Callable prog f_z3g:=callable_of Tryz.func254 (by kernel_rfl) rfl
def f_z3g.live:Nat → Option (List Nat):=lvs [[1],[2]]
theorem f_z3g.does (a0:Value) (h:exec prog W tab 4 f_z3g.live (codeOf Tryz.f254) (bodyQ prog W tab [.tmp 2] R) (argFr 0 [a0]) [] H):Does prog W f_z3g ⟨[a0]⟩ H R :=
 Does.of_exec tab_ok f_z3g.live Tryz.func254 rfl rfl rfl (by simp) h
theorem f_z2d.ok:Callable prog f_z2d:=callable_of Tryz.func255 (by kernel_rfl) rfl
def f_z2d.live:Nat → Option (List Nat):=lvs [[0,1,2],[6]]
theorem f_z2d.does (a0 a1 a2:Value) (h:exec prog W tab 15 f_z2d.live (codeOf Tryz.f255) (bodyQ prog W tab [.tmp 6] R) (argFr 0 [a0,a1,a2]) [] H):Does prog W f_z2d ⟨[a0,a1,a2]⟩ H R :=
 Does.of_exec tab_ok f_z2d.live Tryz.func255 rfl rfl rfl (by simp) h
theorem f_z3z.ok:Callable prog f_z3z:=callable_of Tryz.func257 (by kernel_rfl) rfl
def f_z3z.live:Nat → Option (List Nat):=lvs [[1],[2]]
theorem f_z3z.does (a0:Value) (h:exec prog W tab 24 f_z3z.live (codeOf Tryz.f257) (bodyQ prog W tab [.tmp 2] R) (argFr 0 [a0]) [] H):Does prog W f_z3z ⟨[a0]⟩ H R :=
 Does.of_exec tab_ok f_z3z.live Tryz.func257 rfl rfl rfl (by simp) h
theorem f_z2y.ok:Callable prog f_z2y:=callable_of Tryz.func259 (by kernel_rfl) rfl
def f_z2y.live:Nat → Option (List Nat):=lvs [[1,2],[1,2,28],[4],[1,2,5],[1,2,5,33],[1,2,5],[1,2,5,47],[4],[1,2,6],[1,2,6,52],[1,2,6],[1,2,6,66],[4],[4]]
theorem f_z2y.does (a0 a1:Value) (h:exec prog W tab 67 f_z2y.live (codeOf Tryz.f259) (bodyQ prog W tab [.tmp 4] R) (argFr 0 [a0,a1]) [] H):Does prog W f_z2y ⟨[a0,a1]⟩ H R :=
 Does.of_exec tab_ok f_z2y.live Tryz.func259 rfl rfl rfl (by simp) h
noncomputable abbrev f_zr.def:Func:=Tryz.f260
theorem f_zr.fn:prog.funcs[f_zr]? = some f_zr.def:=Tryz.func260
theorem f_zr.ok:Callable prog f_zr:=callable_of Tryz.func260 (by kernel_rfl) rfl
def f_zr.live:Nat → Option (List Nat):=lvs [[0,1,2],[0,1,2,7],[0,1,2,3,4],[0,1,2,3,14],[0,1,3],[]]
theorem f_zr.does (a0 a1:Value) (h:exec prog W tab 25 f_zr.live (codeOf Tryz.f260) (bodyQ prog W tab [] R) (argFr 0 [a0,a1]) [] H):Does prog W f_zr ⟨[a0,a1]⟩ H R :=
 Does.of_exec tab_ok f_zr.live Tryz.func260 rfl rfl rfl (by simp) h
theorem f_z3h.ok:Callable prog f_z3h:=callable_of Tryz.func261 (by kernel_rfl) rfl
def f_z3h.live:Nat → Option (List Nat):=lvs [[0],[0],[0,14],[2],[0],[2]]
theorem f_z3h.does (a0:Value) (h:exec prog W tab 27 f_z3h.live (codeOf Tryz.f261) (bodyQ prog W tab [.tmp 2] R) (argFr 0 [a0]) [] H):Does prog W f_z3h ⟨[a0]⟩ H R :=
 Does.of_exec tab_ok f_z3h.live Tryz.func261 rfl rfl rfl (by simp) h
theorem f_z40.ok:Callable prog f_z40:=callable_of Tryz.func262 (by kernel_rfl) rfl
def f_z40.live:Nat → Option (List Nat):=lvs [[1],[2]]
theorem f_z40.does (a0:Value) (h:exec prog W tab 4 f_z40.live (codeOf Tryz.f262) (bodyQ prog W tab [.tmp 2] R) (argFr 0 [a0]) [] H):Does prog W f_z40 ⟨[a0]⟩ H R :=
 Does.of_exec tab_ok f_z40.live Tryz.func262 rfl rfl rfl (by simp) h
theorem f_ze.ok:Callable prog f_ze:=callable_of Tryz.func263 (by kernel_rfl) rfl
def f_ze.live:Nat → Option (List Nat):=lvs [[0,2],[2,4],[2,4,5],[2,4,5,7],[2,4,5,7,31],[2,3],[2,4,5,39],[2,3],[2,4,8],[2,4,8,9],[2,4,8,9,46],[2,4,8,9],[2,4,8,9,10,11],[2,4,8,9,11,53,54,55],[2,4,8,9,11,53,54,55,56],[2,4,8,9,11,13,53,54,55],[2,4,8,9,11,53,54,55],[2,4,8,9,11,53,54,55],[2,4,8,66,67,68],[2,4,8,66,67,68,69],[2,4,8,15,66,67,68],[2,4,8,66,67,68],[2,4,8,66,67,68],[2,4,8,79],[2,4,8,81,82],[2,4,8,81,82,83],[2,4,8,16,81,82],[2,4,8,16,17,81,82],[2,4,8,16,81,82],[2,4,8,81,82],[2,4,8,81,82],[2,4,8,109,110],[2,4,8,109,110,111],[2,4,8,109,110],[2,4,8,109,110],[2,4,8],[2,8,19],[2,8,19,135],[2,3],[2,8,20],[2,8,20,141],[2,3],[2,3]]
theorem f_ze.does (a0:Value) (h:exec prog W tab 145 f_ze.live (codeOf Tryz.f263) (bodyQ prog W tab [.cell 2 126,.tmp 3] R) (argFr 0 [a0]) [] H):Does prog W f_ze ⟨[a0]⟩ H R :=
 Does.of_exec tab_ok f_ze.live Tryz.func263 rfl rfl rfl (by simp) h
def f_ze.plan33:List Nat:=[0,1,2,3,6,4,5,7,8,9,10,11,12,13,14]
def f_ze.last33:List Nat:=[11,12,13,14]
theorem f_z2n.ok:Callable prog f_z2n:=callable_of Tryz.func264 (by kernel_rfl) rfl
def f_z2n.live:Nat → Option (List Nat):=lvs [[0,1,2],[7],[6]]
theorem f_z2n.does (a0 a1 a2:Value) (h:exec prog W tab 18 f_z2n.live (codeOf Tryz.f264) (bodyQ prog W tab [.tmp 6] R) (argFr 0 [a0,a1,a2]) [] H):Does prog W f_z2n ⟨[a0,a1,a2]⟩ H R :=
 Does.of_exec tab_ok f_z2n.live Tryz.func264 rfl rfl rfl (by simp) h
theorem f_z2z.ok:Callable prog f_z2z:=callable_of Tryz.func265 (by kernel_rfl) rfl
def f_z2z.live:Nat → Option (List Nat):=lvs [[0],[2]]
theorem f_z2z.does (a0:Value) (h:exec prog W tab 6 f_z2z.live (codeOf Tryz.f265) (bodyQ prog W tab [.tmp 2] R) (argFr 0 [a0]) [] H):Does prog W f_z2z ⟨[a0]⟩ H R :=
 Does.of_exec tab_ok f_z2z.live Tryz.func265 rfl rfl rfl (by simp) h
theorem f_z41.ok:Callable prog f_z41:=callable_of Tryz.func266 (by kernel_rfl) rfl
def f_z41.live:Nat → Option (List Nat):=lvs [[],[0]]
theorem f_z41.does (h:exec prog W tab 3 f_z41.live (codeOf Tryz.f266) (bodyQ prog W tab [.tmp 0] R) (argFr 0 []) [] H):Does prog W f_z41 ⟨[]⟩ H R :=
 Does.of_exec tab_ok f_z41.live Tryz.func266 rfl rfl rfl (by simp) h
theorem f_z1k.ok:Callable prog f_z1k:=callable_of Tryz.func267 (by kernel_rfl) rfl
def f_z1k.live:Nat → Option (List Nat):=lvs [[0,1,5],[0,1],[0,1],[]]
theorem f_z1k.does (a0 a1:Value) (h:exec prog W tab 31 f_z1k.live (codeOf Tryz.f267) (bodyQ prog W tab [] R) (argFr 0 [a0,a1]) [] H):Does prog W f_z1k ⟨[a0,a1]⟩ H R :=
 Does.of_exec tab_ok f_z1k.live Tryz.func267 rfl rfl rfl (by simp) h
theorem f_z6.ok:Callable prog f_z6:=callable_of Tryz.func268 (by kernel_rfl) rfl
def f_z6.live:Nat → Option (List Nat):=lvs [[0,2,3],[0,2,3,8],[0,2,3,8,9],[0,2,3,8,11],[0,2,3,8,13],[0,2,3,8,13],[0,2,3,8,16],[0,2,3,8,16],[0,2,3,16],[0,4],[2,3],[2,3],[0,2],[0,2,3],[0,2,3],[2,3],[2,3]]
theorem f_z6.does (a0:Value) (h:exec prog W tab 102 f_z6.live (codeOf Tryz.f268) (bodyQ prog W tab [.tmp 2,.tmp 3] R) (argFr 0 [a0]) [] H):Does prog W f_z6 ⟨[a0]⟩ H R :=
 Does.of_exec tab_ok f_z6.live Tryz.func268 rfl rfl rfl (by simp) h
def f_z6.tree10:PT:=(.op 0 (.op 1 (.op 2 (.op 3 (.op 4 (.op 5 (.op 6 (.op 7 (.op 8 (.op 9 (.op 10 (.op 11 (.op 12 (.op 13 (.op 14 (.op 15 (.op 16 (.op 17 (.op 18 (.op 19 (.op 20 (.op 21 (.op 23 (.op 24 (.op 25 (.op 26 (.op 27 (.op 28 (.op 29 (.op 30 (.op 31 (.op 32 (.op 33 (.two 22 (.op 35 (.op 34 (.op 36 .nil))) 34 (.op 22 (.op 35 (.op 36 .nil)))))))))))))))))))))))))))))))))))))
def f_z6.plan12:List Nat:=[0,1,2,3,4,5,6,7,8,9,10,11,12,13,14,15,16,17,18,19,20,21]
def f_z6.last12:List Nat:=[20,21]
theorem f_z42.ok:Callable prog f_z42:=callable_of Tryz.func269 (by kernel_rfl) rfl
def f_z42.live:Nat → Option (List Nat):=lvs [[]]
theorem f_z42.does (a0 a1:Value) (h:exec prog W tab 13 f_z42.live (codeOf Tryz.f269) (bodyQ prog W tab [] R) (argFr 0 [a0,a1]) [] H):Does prog W f_z42 ⟨[a0,a1]⟩ H R :=
 Does.of_exec tab_ok f_z42.live Tryz.func269 rfl rfl rfl (by simp) h
theorem f_z43.ok:Callable prog f_z43:=callable_of Tryz.func270 (by kernel_rfl) rfl
def f_z43.live:Nat → Option (List Nat):=lvs [[1],[1,3],[2],[6],[2],[2]]
theorem f_z43.does (a0:Value) (h:exec prog W tab 9 f_z43.live (codeOf Tryz.f270) (bodyQ prog W tab [.tmp 2] R) (argFr 0 [a0]) [] H):Does prog W f_z43 ⟨[a0]⟩ H R :=
 Does.of_exec tab_ok f_z43.live Tryz.func270 rfl rfl rfl (by simp) h
theorem f_z3i.ok:Callable prog f_z3i:=callable_of Tryz.func271 (by kernel_rfl) rfl
def f_z3i.live:Nat → Option (List Nat):=lvs [[0],[2]]
theorem f_z3i.does (a0:Value) (h:exec prog W tab 8 f_z3i.live (codeOf Tryz.f271) (bodyQ prog W tab [.tmp 2] R) (argFr 0 [a0]) [] H):Does prog W f_z3i ⟨[a0]⟩ H R :=
 Does.of_exec tab_ok f_z3i.live Tryz.func271 rfl rfl rfl (by simp) h
theorem f_z3j.ok:Callable prog f_z3j:=callable_of Tryz.func272 (by kernel_rfl) rfl
def f_z3j.live:Nat → Option (List Nat):=lvs [[0],[0,4],[2],[2]]
theorem f_z3j.does (a0:Value) (h:exec prog W tab 8 f_z3j.live (codeOf Tryz.f272) (bodyQ prog W tab [.tmp 2] R) (argFr 0 [a0]) [] H):Does prog W f_z3j ⟨[a0]⟩ H R :=
 Does.of_exec tab_ok f_z3j.live Tryz.func272 rfl rfl rfl (by simp) h
theorem f_z3k.ok:Callable prog f_z3k:=callable_of Tryz.func273 (by kernel_rfl) rfl
def f_z3k.live:Nat → Option (List Nat):=lvs [[0],[0,4],[2],[2]]
theorem f_z3k.does (a0:Value) (h:exec prog W tab 8 f_z3k.live (codeOf Tryz.f273) (bodyQ prog W tab [.tmp 2] R) (argFr 0 [a0]) [] H):Does prog W f_z3k ⟨[a0]⟩ H R :=
 Does.of_exec tab_ok f_z3k.live Tryz.func273 rfl rfl rfl (by simp) h
theorem f_zg.ok:Callable prog f_zg:=callable_of Tryz.func274 (by kernel_rfl) rfl
def f_zg.live:Nat → Option (List Nat):=lvs [[1],[1,4],[1,4,14],[2,3],[1,5],[1,5,19],[2,3],[1,5,6],[1,5,6,24],[1,5,6],[1,5],[1,5,40,41,42],[1,5,40,41,42,43],[1,5,7,8,40,41,42],[1,5,40,41,42],[1,5,40,41,42],[5,73,74,75],[5,73,74,75,76],[5,9,10,73,74,75],[5,73,74,75],[5,73,74,75],[5],[2,3]]
theorem f_zg.does (a0:Value) (h:exec prog W tab 102 f_zg.live (codeOf Tryz.f274) (bodyQ prog W tab [.tmp 2,.tmp 3] R) (argFr 0 [a0]) [] H):Does prog W f_zg ⟨[a0]⟩ H R :=
 Does.of_exec tab_ok f_zg.live Tryz.func274 rfl rfl rfl (by simp) h
def f_zg.plan10:List Nat:=[0,1,2,3,4,5,6,9,10,11,7,8,12,13]
def f_zg.last10:List Nat:=[13]
theorem f_z2e.ok:Callable prog f_z2e:=callable_of Tryz.func276 (by kernel_rfl) rfl
def f_z2e.live:Nat → Option (List Nat):=lvs [[0,1,2,3,8],[0,1,2,3,8],[0,1,2,3,8],[0,1,2,3,8],[0,1,2,3,8],[0,1,2,3,8],[0,1,2,3,8,9],[0,1,2,3,8,9,34],[0,1,2,3,8,9,34,35],[0,1,2,3,8,9,10,34],[0,1,2,3,8,9,34],[0,1,2,3,8,9,34],[0,1,2,3,8,9],[0,1,2,3,8,9],[0,1,8,9],[0,1,8,9],[8],[8]]
theorem f_z2e.does (a0 a1 a2 a3:Value) (h:exec prog W tab 62 f_z2e.live (codeOf Tryz.f276) (bodyQ prog W tab [.cell 8 49] R) (argFr 0 [a0,a1,a2,a3]) [] H):Does prog W f_z2e ⟨[a0,a1,a2,a3]⟩ H R :=
 Does.of_exec tab_ok f_z2e.live Tryz.func276 rfl rfl rfl (by simp) h
theorem f_z2f.ok:Callable prog f_z2f:=callable_of Tryz.func277 (by kernel_rfl) rfl
def f_z2f.live:Nat → Option (List Nat):=lvs [[0,1,2,3],[0,1,2,3,15],[8],[0,1,2,3,24],[8],[0,1,3,25,26],[0,1,3,25,26,27],[0,1,3,9,25,26],[0,1,3,25,26],[0,1,3,25,26],[8]]
theorem f_z2f.does (a0 a1 a2 a3:Value) (h:exec prog W tab 40 f_z2f.live (codeOf Tryz.f277) (bodyQ prog W tab [.tmp 8] R) (argFr 0 [a0,a1,a2,a3]) [] H):Does prog W f_z2f ⟨[a0,a1,a2,a3]⟩ H R :=
 Does.of_exec tab_ok f_z2f.live Tryz.func277 rfl rfl rfl (by simp) h
theorem f_z4e.ok:Callable prog f_z4e:=callable_of Tryz.func313 (by kernel_rfl) rfl
def f_z4e.live:Nat → Option (List Nat):=lvs [[0,5],[0,5,7],[0,3,5],[0,5,13]]
theorem f_z4e.does (a0 a1:Value) (h:exec prog W tab 14 f_z4e.live (codeOf Tryz.f313) (bodyQ prog W tab [] R) (argFr 0 [a0,a1]) [] H):Does prog W f_z4e ⟨[a0,a1]⟩ H R :=
 Does.of_exec tab_ok f_z4e.live Tryz.func313 rfl rfl rfl (by simp) h
theorem f_z12.ok:Callable prog f_z12:=callable_of Tryz.func314 (by kernel_rfl) rfl
def f_z12.live:Nat → Option (List Nat):=lvs [[1],[2]]
theorem f_z12.does (a0:Value) (h:exec prog W tab 11 f_z12.live (codeOf Tryz.f314) (bodyQ prog W tab [.tmp 2] R) (argFr 0 [a0]) [] H):Does prog W f_z12 ⟨[a0]⟩ H R :=
 Does.of_exec tab_ok f_z12.live Tryz.func314 rfl rfl rfl (by simp) h
theorem f_z3l.ok:Callable prog f_z3l:=callable_of Tryz.func317 (by kernel_rfl) rfl
def f_z3l.live:Nat → Option (List Nat):=lvs [[]]
theorem f_z3l.does (a0:Value) (h:exec prog W tab 5 f_z3l.live (codeOf Tryz.f317) (bodyQ prog W tab [] R) (argFr 0 [a0]) [] H):Does prog W f_z3l ⟨[a0]⟩ H R :=
 Does.of_exec tab_ok f_z3l.live Tryz.func317 rfl rfl rfl (by simp) h
theorem f_z3m.ok:Callable prog f_z3m:=callable_of Tryz.func318 (by kernel_rfl) rfl
def f_z3m.live:Nat → Option (List Nat):=lvs [[]]
theorem f_z3m.does (a0:Value) (h:exec prog W tab 5 f_z3m.live (codeOf Tryz.f318) (bodyQ prog W tab [] R) (argFr 0 [a0]) [] H):Does prog W f_z3m ⟨[a0]⟩ H R :=
 Does.of_exec tab_ok f_z3m.live Tryz.func318 rfl rfl rfl (by simp) h
theorem f_z4f.ok:Callable prog f_z4f:=callable_of Tryz.func320 (by kernel_rfl) rfl
def f_z4f.live:Nat → Option (List Nat):=lvs [[0,5],[0,5,7],[0,3,5],[0,5,13]]
theorem f_z4f.does (a0 a1:Value) (h:exec prog W tab 14 f_z4f.live (codeOf Tryz.f320) (bodyQ prog W tab [] R) (argFr 0 [a0,a1]) [] H):Does prog W f_z4f ⟨[a0,a1]⟩ H R :=
 Does.of_exec tab_ok f_z4f.live Tryz.func320 rfl rfl rfl (by simp) h
theorem f_z18.ok:Callable prog f_z18:=callable_of Tryz.func321 (by kernel_rfl) rfl
def f_z18.live:Nat → Option (List Nat):=lvs [[0,1],[0,1,9],[4],[0,1,5],[0,1,5,13],[0,1,5],[0,1,5,6],[0,1,5,58],[4],[4]]
theorem f_z18.does (a0 a1:Value) (h:exec prog W tab 59 f_z18.live (codeOf Tryz.f321) (bodyQ prog W tab [.tmp 4] R) (argFr 0 [a0,a1]) [] H):Does prog W f_z18 ⟨[a0,a1]⟩ H R :=
 Does.of_exec tab_ok f_z18.live Tryz.func321 rfl rfl rfl (by simp) h
def f_z18.plan7:List Nat:=[0,1,2,3,4,5,6,7,8,9,10,11,12,13,14,15,16,17,18,19,20,21,22,23,24,25,26,27,28,29,30,31,32,33,34,35,36,37,38]
def f_z18.last7:List Nat:=[22,23,24,25,26,27,28,29,30,31,32,33,34,35,36,37,38]
theorem f_z19.ok:Callable prog f_z19:=callable_of Tryz.func322 (by kernel_rfl) rfl
def f_z19.live:Nat → Option (List Nat):=lvs [[0],[0,6],[2],[0,3],[0,3,10],[0,3],[0,3,46],[2],[2]]
theorem f_z19.does (a0:Value) (h:exec prog W tab 47 f_z19.live (codeOf Tryz.f322) (bodyQ prog W tab [.tmp 2] R) (argFr 0 [a0]) [] H):Does prog W f_z19 ⟨[a0]⟩ H R :=
 Does.of_exec tab_ok f_z19.live Tryz.func322 rfl rfl rfl (by simp) h
def f_z19.plan6:List Nat:=[0,1,2,3,4,5,6,7,8,9,10,11,12,13,14,15,16,17,18,19,20,21,22,23,24,25,26,27,28,29,30,31,32,33]
def f_z19.last6:List Nat:=[28,29,30,31,32,33]
theorem f_z30.ok:Callable prog f_z30:=callable_of Tryz.func323 (by kernel_rfl) rfl
def f_z30.live:Nat → Option (List Nat):=lvs [[0,1,3],[0,1,3,8],[0,1,3],[0,1,3,18]]
theorem f_z30.does (a0 a1:Value) (h:exec prog W tab 19 f_z30.live (codeOf Tryz.f323) (bodyQ prog W tab [] R) (argFr 0 [a0,a1]) [] H):Does prog W f_z30 ⟨[a0,a1]⟩ H R :=
 Does.of_exec tab_ok f_z30.live Tryz.func323 rfl rfl rfl (by simp) h
theorem f_z3n.ok:Callable prog f_z3n:=callable_of Tryz.func324 (by kernel_rfl) rfl
def f_z3n.live:Nat → Option (List Nat):=lvs [[0],[2]]
theorem f_z3n.does (a0:Value) (h:exec prog W tab 7 f_z3n.live (codeOf Tryz.f324) (bodyQ prog W tab [.tmp 2] R) (argFr 0 [a0]) [] H):Does prog W f_z3n ⟨[a0]⟩ H R :=
 Does.of_exec tab_ok f_z3n.live Tryz.func324 rfl rfl rfl (by simp) h
theorem f_z1a.ok:Callable prog f_z1a:=callable_of Tryz.func325 (by kernel_rfl) rfl
def f_z1a.live:Nat → Option (List Nat):=lvs [[0,1],[0,1,12],[4],[0,1,5,6,7],[0,5,6,7,25],[0,5,6,7],[0,5,6,7,27],[],[4],[5],[4]]
theorem f_z1a.does (a0 a1:Value) (h:exec prog W tab 41 f_z1a.live (codeOf Tryz.f325) (bodyQ prog W tab [.tmp 4] R) (argFr 0 [a0,a1]) [] H):Does prog W f_z1a ⟨[a0,a1]⟩ H R :=
 Does.of_exec tab_ok f_z1a.live Tryz.func325 rfl rfl rfl (by simp) h
theorem f_zk.ok:Callable prog f_zk:=callable_of Tryz.func326 (by kernel_rfl) rfl
def f_zk.live:Nat → Option (List Nat):=lvs [[0],[0,8],[2,3],[2,3]]
theorem f_zk.does (a0:Value) (h:exec prog W tab 17 f_zk.live (codeOf Tryz.f326) (bodyQ prog W tab [.tmp 2,.tmp 3] R) (argFr 0 [a0]) [] H):Does prog W f_zk ⟨[a0]⟩ H R :=
 Does.of_exec tab_ok f_zk.live Tryz.func326 rfl rfl rfl (by simp) h
def f_zk.plan3:List Nat:=[0,1,2,3,4,5,6,7,8,9]
def f_zk.last3:List Nat:=[9]
theorem f_z44.ok:Callable prog f_z44:=callable_of Tryz.func327 (by kernel_rfl) rfl
def f_z44.live:Nat → Option (List Nat):=lvs [[0],[3],[2]]
theorem f_z44.does (a0:Value) (h:exec prog W tab 14 f_z44.live (codeOf Tryz.f327) (bodyQ prog W tab [.tmp 2] R) (argFr 0 [a0]) [] H):Does prog W f_z44 ⟨[a0]⟩ H R :=
 Does.of_exec tab_ok f_z44.live Tryz.func327 rfl rfl rfl (by simp) h
theorem f_zs.ok:Callable prog f_zs:=callable_of Tryz.func328 (by kernel_rfl) rfl
def f_zs.live:Nat → Option (List Nat):=lvs [[0,18],[]]
theorem f_zs.does (a0:Value) (h:exec prog W tab 22 f_zs.live (codeOf Tryz.f328) (bodyQ prog W tab [] R) (argFr 0 [a0]) [] H):Does prog W f_zs ⟨[a0]⟩ H R :=
 Does.of_exec tab_ok f_zs.live Tryz.func328 rfl rfl rfl (by simp) h
def f_zs.plan0:List Nat:=[0,1,2,3,4,5,6,7,8,9,10,11,12,13,14,15,16]
def f_zs.last0:List Nat:=[15,16]
theorem f_z45.ok:Callable prog f_z45:=callable_of Tryz.func329 (by kernel_rfl) rfl
def f_z45.live:Nat → Option (List Nat):=lvs [[0],[2]]
theorem f_z45.does (a0:Value) (h:exec prog W tab 5 f_z45.live (codeOf Tryz.f329) (bodyQ prog W tab [.tmp 2] R) (argFr 0 [a0]) [] H):Does prog W f_z45 ⟨[a0]⟩ H R :=
 Does.of_exec tab_ok f_z45.live Tryz.func329 rfl rfl rfl (by simp) h
theorem f_z31.ok:Callable prog f_z31:=callable_of Tryz.func330 (by kernel_rfl) rfl
def f_z31.live:Nat → Option (List Nat):=lvs [[0],[0,4],[2],[2]]
theorem f_z31.does (a0:Value) (h:exec prog W tab 8 f_z31.live (codeOf Tryz.f330) (bodyQ prog W tab [.tmp 2] R) (argFr 0 [a0]) [] H):Does prog W f_z31 ⟨[a0]⟩ H R :=
 Does.of_exec tab_ok f_z31.live Tryz.func330 rfl rfl rfl (by simp) h
theorem f_z13.ok:Callable prog f_z13:=callable_of Tryz.func331 (by kernel_rfl) rfl
def f_z13.live:Nat → Option (List Nat):=lvs [[1],[1,3],[2],[1,8],[2],[1,19],[2],[1,30],[2],[2]]
theorem f_z13.does (a0:Value) (h:exec prog W tab 46 f_z13.live (codeOf Tryz.f331) (bodyQ prog W tab [.tmp 2] R) (argFr 0 [a0]) [] H):Does prog W f_z13 ⟨[a0]⟩ H R :=
 Does.of_exec tab_ok f_z13.live Tryz.func331 rfl rfl rfl (by simp) h
def f_z13.plan7:List Nat:=[0,1,2,3,4,5,6,7,8,9,10,11,12,13]
def f_z13.last7:List Nat:=[11,12,13]
theorem f_z2g.ok:Callable prog f_z2g:=callable_of Tryz.func332 (by kernel_rfl) rfl
def f_z2g.live:Nat → Option (List Nat):=lvs [[1],[2]]
theorem f_z2g.does (a0:Value) (h:exec prog W tab 10 f_z2g.live (codeOf Tryz.f332) (bodyQ prog W tab [.tmp 2] R) (argFr 0 [a0]) [] H):Does prog W f_z2g ⟨[a0]⟩ H R :=
 Does.of_exec tab_ok f_z2g.live Tryz.func332 rfl rfl rfl (by simp) h
theorem f_z1t.ok:Callable prog f_z1t:=callable_of Tryz.func333 (by kernel_rfl) rfl
def f_z1t.live:Nat → Option (List Nat):=lvs [[0,1,2,10,11,12],[0,1,2,10,11,12,13],[0,1,2,8,9,10,11,12],[0,1,2,8,10,11,12],[0,1,2,10,11,12],[0,1,2,10,11,12]]
theorem f_z1t.does (a0 a1 a2 a3:Value) (h:exec prog W tab 32 f_z1t.live (codeOf Tryz.f333) (bodyQ prog W tab [] R) (argFr 0 [a0,a1,a2,a3]) [] H):Does prog W f_z1t ⟨[a0,a1,a2,a3]⟩ H R :=
 Does.of_exec tab_ok f_z1t.live Tryz.func333 rfl rfl rfl (by simp) h
noncomputable abbrev f_zd.def:Func:=Tryz.f334
theorem f_zd.fn:prog.funcs[f_zd]? = some f_zd.def:=Tryz.func334
theorem f_zd.ok:Callable prog f_zd:=callable_of Tryz.func334 (by kernel_rfl) rfl
def f_zd.live:Nat → Option (List Nat):=lvs [[]]
theorem f_zd.does (a0:Value) (h:exec prog W tab 3 f_zd.live (codeOf Tryz.f334) (bodyQ prog W tab [] R) (argFr 0 [a0]) [] H):Does prog W f_zd ⟨[a0]⟩ H R :=
 Does.of_exec tab_ok f_zd.live Tryz.func334 rfl rfl rfl (by simp) h
theorem f_z14.ok:Callable prog f_z14:=callable_of Tryz.func370 (by kernel_rfl) rfl
def f_z14.live:Nat → Option (List Nat):=lvs [[0],[0,5],[0,5,16,17,18],[0,5,16,17,18,19],[0,5,6,7,16,17,18],[0,5,6,7,16,17,18,24],[2,3,4],[0,5,6,7,16,17,18],[0,5,6,7,16,17,18,34],[5,6,48],[2,3,4],[2,3,4],[0,5,16,17,18],[63],[2,3,4],[2,3,4]]
theorem f_z14.does (a0:Value) (h:exec prog W tab 64 f_z14.live (codeOf Tryz.f370) (bodyQ prog W tab [.tmp 2,.tmp 3,.tmp 4] R) (argFr 0 [a0]) [] H):Does prog W f_z14 ⟨[a0]⟩ H R :=
 Does.of_exec tab_ok f_z14.live Tryz.func370 rfl rfl rfl (by simp) h
def f_z14.plan2:List Nat:=[0,1,2,3,4,5,6,7,8,9,10]
def f_z14.last2:List Nat:=[]
def f_z14.plan13:List Nat:=[0,1,2,3,4,5,6,7,8,9,10]
def f_z14.last13:List Nat:=[9,10]
theorem f_z3o.ok:Callable prog f_z3o:=callable_of Tryz.func401 (by kernel_rfl) rfl
def f_z3o.live:Nat → Option (List Nat):=lvs [[0],[2]]
theorem f_z3o.does (a0:Value) (h:exec prog W tab 7 f_z3o.live (codeOf Tryz.f401) (bodyQ prog W tab [.tmp 2] R) (argFr 0 [a0]) [] H):Does prog W f_z3o ⟨[a0]⟩ H R :=
 Does.of_exec tab_ok f_z3o.live Tryz.func401 rfl rfl rfl (by simp) h
end Go.Proofs.YtbcedpankkdfoaaGreatDoor
