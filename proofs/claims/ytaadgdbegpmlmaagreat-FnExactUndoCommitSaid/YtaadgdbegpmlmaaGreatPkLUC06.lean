/- Printed by a program of this claim's author: each Go function as a Lean function over abstract combinators, and the equation that says that T makes it of the loaded code. -/
import Derived.Test.YtaadgdbegpmlmaaGreatProg
import Derived.Test.YtaadgdbegpmlmaaGreatPkLUC02
namespace Go.Proofs.YtaadgdbegpmlmaaGreat
open Go.Sx
theorem mixed : Tryz.prog.follows .mixedOrders = true := by kernel_rfl

abbrev n_laws_FnExactUndoCommit : Nat := 14
abbrev n_laws_szBook : Nat := 30
abbrev n_laws_toBook : Nat := 32
abbrev n_laws_toKey : Nat := 33
abbrev n_laws_eqBook : Nat := 36
abbrev n_laws_markBook : Nat := 37
abbrev n_impl_ValidCommit : Nat := 62
abbrev n_laws_eqKeyS : Nat := 69
abbrev n_laws_markKeyS : Nat := 70
abbrev n_laws_heldKeyS : Nat := 71
abbrev n_laws_szKeyS : Nat := 74
abbrev n_laws_szEntryS : Nat := 75
abbrev n_laws_toKeyS : Nat := 76
abbrev n_laws_toEntryS : Nat := 77
abbrev n_laws_eqKey : Nat := 78
abbrev n_laws_eqEntryS : Nat := 79
abbrev n_laws_markEntryS : Nat := 80
abbrev n_laws_heldBook : Nat := 81
abbrev n_spec_UndoCommit : Nat := 92
abbrev n_impl_UndoCommit : Nat := 93
abbrev n_impl_open : Nat := 96
abbrev n_impl_sorted : Nat := 97
abbrev n_slices_Clone_sl_impl_Key_impl_Key : Nat := 99
abbrev n_slices_Contains_sl_impl_Key_impl_Key : Nat := 103
abbrev n_spec_l07Ok : Nat := 104
abbrev n_spec_l07Key : Nat := 105
abbrev n_ptr_impl_ledger_ancestors : Nat := 106
abbrev n_ptr_impl_ledger_isAncestor : Nat := 108
abbrev n_impl_compareKeys : Nat := 110
abbrev n_spec_l07At : Nat := 112
abbrev n_spec_l07Above : Nat := 113
abbrev n_spec_l01Compare : Nat := 114
abbrev n_spec_l07Two : Nat := 115
abbrev n_spec_l01Has : Nat := 116
abbrev n_laws_szCommitS : Nat := 117
abbrev n_laws_szEntrySS : Nat := 118
abbrev n_spec_l07Changes : Nat := 119
abbrev n_laws_toCommitS : Nat := 120
abbrev n_laws_toEntrySS : Nat := 121
abbrev n_ptr_impl_ledger_changesAt : Nat := 122
abbrev n_laws_eqCommitS : Nat := 124
abbrev n_laws_eqEntrySS : Nat := 125
abbrev n_laws_markCommitS : Nat := 126
abbrev n_laws_markEntrySS : Nat := 127
abbrev n_laws_markText : Nat := 128
abbrev n_impl_newLedger : Nat := 148
abbrev n_impl_Commit_data : Nat := 153
abbrev n_impl_Commit_key : Nat := 155
abbrev n_spec_l01Hash : Nat := 156
abbrev n_ptr_impl_ledger_at : Nat := 157
abbrev n_impl_within : Nat := 159
abbrev n_impl_ValidEntries : Nat := 161
abbrev n_ptr_impl_ledger_commit : Nat := 162
abbrev n_spec_l07Book : Nat := 163
abbrev n_spec_ValidEntries : Nat := 164
abbrev n_spec_l07Commit : Nat := 165
abbrev n_spec_l07Keys : Nat := 167
abbrev n_spec_l01Sort : Nat := 168
abbrev n_spec_l07Find : Nat := 169
abbrev n_laws_szEntry : Nat := 172
abbrev n_laws_toEntry : Nat := 173
abbrev n_laws_eqEntry : Nat := 174
abbrev n_laws_heldCommitS : Nat := 175
abbrev n_laws_heldEntrySS : Nat := 176
abbrev n_spec_l07Has : Nat := 187
abbrev n_spec_l07Undone : Nat := 188
abbrev n_slices_ContainsFunc_sl_impl_Change_impl_Change : Nat := 189
abbrev n_impl_UndoCommit_1 : Nat := 190
abbrev n_impl_same : Nat := 191
abbrev n_ptr_impl_ledger_mapOf : Nat := 192
abbrev n_slices_Clone_sl_impl_Entry_impl_Entry : Nat := 193
abbrev n_impl_find : Nat := 194
abbrev n_slices_Delete_sl_impl_Entry_impl_Entry : Nat := 195
abbrev n_slices_Insert_sl_impl_Entry_impl_Entry : Nat := 196
abbrev n_ptr_impl_ledger_find : Nat := 198
abbrev n_slices_SortFunc_sl_impl_Key_impl_Key : Nat := 199
abbrev n_slices_Compact_sl_impl_Key_impl_Key : Nat := 200
abbrev n_slices_Index_sl_impl_Key_impl_Key : Nat := 203
abbrev n_spec_l00In : Nat := 204
abbrev n_spec_l07Data : Nat := 205
abbrev n_slices_Compare_sl_byte_byte : Nat := 210
abbrev n_laws_szCommit : Nat := 211
abbrev n_spec_ChangesOf : Nat := 212
abbrev n_laws_toCommit : Nat := 213
abbrev n_impl_changes : Nat := 214
abbrev n_laws_eqCommit : Nat := 215
abbrev n_impl_treeOf : Nat := 240
abbrev n_ptr_impl_tree_key : Nat := 241
abbrev n_ptr_impl_ledger_number : Nat := 242
abbrev n_impl_hash : Nat := 245
abbrev n_spec_l01End : Nat := 246
abbrev n_spec_l01Start : Nat := 247
abbrev n_impl_ValidEntry : Nat := 248
abbrev n_impl_Book_copied : Nat := 249
abbrev n_spec_MapKey : Nat := 250
abbrev n_spec_l07Number : Nat := 251
abbrev n_spec_l04Ok : Nat := 252
abbrev n_spec_l07Copy : Nat := 253
abbrev n_spec_l01Xor : Nat := 254
abbrev n_laws_heldEntryS : Nat := 255
abbrev n_impl_EmptyMapKey : Nat := 258
abbrev n_spec_l04Empty : Nat := 262
abbrev n_slices_IndexFunc_sl_impl_Change_impl_Change : Nat := 263
abbrev n_slices_BinarySearchFunc_sl_impl_Entry_impl_Entry_string : Nat := 264
abbrev n_impl_find_1 : Nat := 265
abbrev n_cmp_Compare_string : Nat := 266
abbrev n_slices_overlaps_impl_Entry : Nat := 267
abbrev n_slices_rotateRight_impl_Entry : Nat := 268
abbrev n_spec_l07Add : Nat := 271
abbrev n_cmp_Compare_byte : Nat := 272
abbrev n_spec_l04Changes : Nat := 273
abbrev n_spec_l04Nodes : Nat := 274
abbrev n_spec_l04Bytes : Nat := 276
abbrev n_impl_grow : Nat := 289
abbrev n_impl_MapNode_key : Nat := 290
abbrev n_impl_blocks : Nat := 291
abbrev n_slices_Concat_sl_byte_byte : Nat := 292
abbrev n_impl_padding : Nat := 293
abbrev n_impl_size_byte : Nat := 294
abbrev n_impl_keyOf : Nat := 295
abbrev n_impl_mixed : Nat := 296
abbrev n_impl_StartState : Nat := 297
abbrev n_spec_l01Padded : Nat := 298
abbrev n_spec_l01Mix : Nat := 299
abbrev n_spec_l01Block : Nat := 300
abbrev n_impl_isName : Nat := 301
abbrev n_spec_l00Max : Nat := 302
abbrev n_spec_l04Entry : Nat := 303
abbrev n_cmp_isNaN_string : Nat := 305
abbrev n_cmp_isNaN_byte : Nat := 317
abbrev n_spec_l04Top : Nat := 318
abbrev n_spec_l04NodeKey : Nat := 319
abbrev n_impl_MapNode_bytes : Nat := 324
abbrev n_slices_Grow_sl_byte_byte : Nat := 325
abbrev n_impl_appendLittle : Nat := 326
abbrev n_impl_MixBlock : Nat := 327
abbrev n_spec_l01Turn : Nat := 328
abbrev n_spec_l04Name : Nat := 329
abbrev n_spec_l04Priority : Nat := 336
abbrev n_impl_littleNumber : Nat := 337
abbrev n_math_bits_RotateLeft32 : Nat := 338
abbrev ty_x : Nat := 0
abbrev ty_int64 : Nat := 2
abbrev ty_int : Nat := 3
abbrev ty_bool : Nat := 4
abbrev ty_uint8 : Nat := 5
abbrev ty_string : Nat := 9
abbrev ty_sl_uint8 : Nat := 22
abbrev ty_sl_impl_Commit : Nat := 24
abbrev ty_sl_sl_impl_Entry : Nat := 25
abbrev ty_impl_Book : Nat := 27
abbrev ty_sl_impl_Key : Nat := 29
abbrev ty_arr32_uint8 : Nat := 33
abbrev ty_impl_Key : Nat := 34
abbrev ty_impl_Commit : Nat := 38
abbrev ty_sl_laws_Commit : Nat := 48
abbrev ty_sl_sl_laws_Entry : Nat := 49
abbrev ty_laws_Book : Nat := 51
abbrev ty_sl_impl_Change : Nat := 53
abbrev ty_impl_Lease : Nat := 73
abbrev ty_sl_impl_Entry : Nat := 88
abbrev ty_sl_arr32_uint8 : Nat := 94
abbrev ty_sl_laws_Entry : Nat := 95
abbrev ty_impl_Blob : Nat := 110
abbrev ty_ptr_impl_ledger : Nat := 119
abbrev ty_impl_ledger : Nat := 125
abbrev ty_impl_Change : Nat := 151
abbrev ty_spec_l05Store : Nat := 165
abbrev ty_map_impl_Key_bool : Nat := 168
abbrev ty_impl_shop : Nat := 178
abbrev ty_laws_Entry : Nat := 213
abbrev ty_impl_Entry : Nat := 214
abbrev ty_uint64 : Nat := 242
abbrev ty_laws_Commit : Nat := 254
abbrev ty_sl_sl_uint8 : Nat := 262
abbrev ty_ptr_impl_tree : Nat := 279
abbrev ty_uint32 : Nat := 284
abbrev ty_arr8_uint32 : Nat := 285
abbrev ty_impl_MapNode : Nat := 294
abbrev ty_sl_impl_MapNode : Nat := 310
abbrev ty_impl_tree : Nat := 328
def laws_FnExactUndoCommit (C : Comb) (x0 : Array Value) (x1 : Array Value) (x2 : Array Value) (x3 : ByteArray) : C.St :=
 C.new ty_laws_Book (.agg x0) fun b4 =>
 C.new ty_arr32_uint8 (.agg x1) fun b5 =>
 C.new ty_arr32_uint8 (.agg x2) fun b6 =>
 cond (decide ((x3.size : Int) > 1048576)) (
 C.ret (.bool true)
 ) (
 C.ld .agg 2 (Addr.mk b4 0 none) fun v26 =>
 C.call n_laws_szBook [(.agg v26), (.int .i64 1048576)] [(.int .i64)] fun r28 =>
 cond (decide (r28 < 0)) (
 C.ret (.bool true)
 ) (
 C.join (TL [.ptr, .ptr, (.int .i64)]) (embL [.ptr, .ptr, (.int .i64)]) (fun s113 => C.any fun _ =>
 C.ld .agg 2 (Addr.mk b4 0 none) fun v43 =>
 C.call n_laws_toBook [(.agg v43)] [.agg] fun r44 =>
 C.new ty_impl_Book (.agg (#[(.slice none 0 0), (.slice none 0 0)])) fun b13 =>
 C.st 2 (Addr.mk b13 0 none) (.agg r44) <|
 C.join (TL [.ptr, .ptr, (.int .i64)]) (embL [.ptr, .ptr, (.int .i64)]) (fun s183 => C.any fun _ =>
 C.join (TL []) (embL []) (fun s190 => C.any fun _ =>
 C.join (TL []) (embL []) (fun s195 => C.any fun _ =>
 C.ld .agg 2 (Addr.mk b13 0 none) fun v76 =>
 C.call n_laws_markBook [(.agg v76), (.int .i64 1)] [(.int .i64)] fun r78 =>
 C.join (TL []) (embL []) (fun s204 => C.any fun _ =>
 C.ld .agg 2 s183.1 fun v98 =>
 C.call n_laws_markBook [(.agg v98), (.int .i64 1)] [(.int .i64)] fun r100 =>
 C.ld .agg 2 s183.1 fun v101 =>
 C.call n_laws_heldBook [(.agg v101), (.int .i64 1)] [(.int .i64)] fun r103 =>
 cond (decide (r103 < 0)) (
 C.ret (.bool false)
 ) (
 cond (r103 != r100) (
 C.ret (.bool false)
 ) (
 C.join (TL [.ptr, .ptr, (.int .i64)]) (embL [.ptr, .ptr, (.int .i64)]) (fun s316 => C.any fun _ =>
 C.join (TL []) (embL []) (fun s323 => C.any fun _ =>
 C.ld .agg 2 s183.1 fun v136 =>
 C.call n_laws_heldBook [(.agg v136), (.int .i64 1)] [(.int .i64)] fun r138 =>
 cond (decide (r138 < 0)) (
 C.ret (.bool false)
 ) (
 cond (r138 != r100) (
 C.ret (.bool false)
 ) (
 C.ret (.bool true)
 )
 )
 ) fun jt =>
 C.ld .agg 2 s316.1 fun v121 =>
 C.ld .agg 2 s113.1 fun v122 =>
 C.call n_laws_eqBook [(.agg v121), (.agg v122)] [.bool] fun r123 =>
 cond (!r123) (
 C.ret (.bool false)
 ) (
 C.ld .agg 32 s316.2.1 fun v126 =>
 C.ld .agg 32 s113.2.1 fun v127 =>
 C.call n_laws_eqKey [(.agg v126), (.agg v127)] [.bool] fun r128 =>
 cond (!r128) (
 C.ret (.bool false)
 ) (
 cond (s316.2.2 != s113.2.2) (
 C.ret (.bool false)
 ) (
 jt []
 )
 )
 )
 ) fun jt =>
 C.draw <|
 C.ld .agg 2 (Addr.mk b4 0 none) fun v110 =>
 C.ld .agg 32 (Addr.mk b5 0 none) fun v112 =>
 C.ld .agg 32 (Addr.mk b6 0 none) fun v114 =>
 C.all [
 (C.call n_laws_toBook [(.agg v110)] [.agg] fun r111 =>
 C.chk [⟨4, 32, (Addr.mk b6 0 none), .agg, v114⟩, ⟨2, 32, (Addr.mk b5 0 none), .agg, v112⟩] <|
 C.all [
 (C.call n_laws_toKey [(.agg v112)] [.agg] fun r113 =>
 C.chk [⟨4, 32, (Addr.mk b6 0 none), .agg, v114⟩] <|
 C.all [
 (C.call n_laws_toKey [(.agg v114)] [.agg] fun r115 =>
 C.all [
 (C.call n_impl_UndoCommit [(.agg r111), (.agg r113), (.agg r115), (.string x3)] [.agg, .agg, (.int .i64)] fun r117 =>
 C.all [
 (C.new ty_impl_Book (.agg (#[(.slice none 0 0), (.slice none 0 0)])) fun b20 =>
 C.new ty_impl_Key (.agg (Array.replicate 32 (.int .u8 0))) fun b21 =>
 C.st 2 (Addr.mk b20 0 none) (.agg r117.1) <|
 C.st 32 (Addr.mk b21 0 none) (.agg r117.2.1) <|
 jt [(.pointer (some (Addr.mk b20 0 none))), (.pointer (some (Addr.mk b21 0 none))), (.int .i64 r117.2.2)]),
 (C.new ty_impl_Key (.agg (Array.replicate 32 (.int .u8 0))) fun b21 =>
 C.new ty_impl_Book (.agg (#[(.slice none 0 0), (.slice none 0 0)])) fun b20 =>
 C.st 2 (Addr.mk b20 0 none) (.agg r117.1) <|
 C.st 32 (Addr.mk b21 0 none) (.agg r117.2.1) <|
 jt [(.pointer (some (Addr.mk b20 0 none))), (.pointer (some (Addr.mk b21 0 none))), (.int .i64 r117.2.2)])]),
 (C.new ty_impl_Book (.agg (#[(.slice none 0 0), (.slice none 0 0)])) fun b20 =>
 C.all [
 (C.call n_impl_UndoCommit [(.agg r111), (.agg r113), (.agg r115), (.string x3)] [.agg, .agg, (.int .i64)] fun r117 =>
 C.new ty_impl_Key (.agg (Array.replicate 32 (.int .u8 0))) fun b21 =>
 C.st 2 (Addr.mk b20 0 none) (.agg r117.1) <|
 C.st 32 (Addr.mk b21 0 none) (.agg r117.2.1) <|
 jt [(.pointer (some (Addr.mk b20 0 none))), (.pointer (some (Addr.mk b21 0 none))), (.int .i64 r117.2.2)]),
 (C.new ty_impl_Key (.agg (Array.replicate 32 (.int .u8 0))) fun b21 =>
 C.call n_impl_UndoCommit [(.agg r111), (.agg r113), (.agg r115), (.string x3)] [.agg, .agg, (.int .i64)] fun r117 =>
 C.st 2 (Addr.mk b20 0 none) (.agg r117.1) <|
 C.st 32 (Addr.mk b21 0 none) (.agg r117.2.1) <|
 jt [(.pointer (some (Addr.mk b20 0 none))), (.pointer (some (Addr.mk b21 0 none))), (.int .i64 r117.2.2)])]),
 (C.new ty_impl_Key (.agg (Array.replicate 32 (.int .u8 0))) fun b21 =>
 C.all [
 (C.call n_impl_UndoCommit [(.agg r111), (.agg r113), (.agg r115), (.string x3)] [.agg, .agg, (.int .i64)] fun r117 =>
 C.new ty_impl_Book (.agg (#[(.slice none 0 0), (.slice none 0 0)])) fun b20 =>
 C.st 2 (Addr.mk b20 0 none) (.agg r117.1) <|
 C.st 32 (Addr.mk b21 0 none) (.agg r117.2.1) <|
 jt [(.pointer (some (Addr.mk b20 0 none))), (.pointer (some (Addr.mk b21 0 none))), (.int .i64 r117.2.2)]),
 (C.new ty_impl_Book (.agg (#[(.slice none 0 0), (.slice none 0 0)])) fun b20 =>
 C.call n_impl_UndoCommit [(.agg r111), (.agg r113), (.agg r115), (.string x3)] [.agg, .agg, (.int .i64)] fun r117 =>
 C.st 2 (Addr.mk b20 0 none) (.agg r117.1) <|
 C.st 32 (Addr.mk b21 0 none) (.agg r117.2.1) <|
 jt [(.pointer (some (Addr.mk b20 0 none))), (.pointer (some (Addr.mk b21 0 none))), (.int .i64 r117.2.2)])])]),
 (C.new ty_impl_Book (.agg (#[(.slice none 0 0), (.slice none 0 0)])) fun b20 =>
 C.chk [⟨4, 32, (Addr.mk b6 0 none), .agg, v114⟩] <|
 C.all [
 (C.call n_laws_toKey [(.agg v114)] [.agg] fun r115 =>
 C.all [
 (C.call n_impl_UndoCommit [(.agg r111), (.agg r113), (.agg r115), (.string x3)] [.agg, .agg, (.int .i64)] fun r117 =>
 C.new ty_impl_Key (.agg (Array.replicate 32 (.int .u8 0))) fun b21 =>
 C.st 2 (Addr.mk b20 0 none) (.agg r117.1) <|
 C.st 32 (Addr.mk b21 0 none) (.agg r117.2.1) <|
 jt [(.pointer (some (Addr.mk b20 0 none))), (.pointer (some (Addr.mk b21 0 none))), (.int .i64 r117.2.2)]),
 (C.new ty_impl_Key (.agg (Array.replicate 32 (.int .u8 0))) fun b21 =>
 C.call n_impl_UndoCommit [(.agg r111), (.agg r113), (.agg r115), (.string x3)] [.agg, .agg, (.int .i64)] fun r117 =>
 C.st 2 (Addr.mk b20 0 none) (.agg r117.1) <|
 C.st 32 (Addr.mk b21 0 none) (.agg r117.2.1) <|
 jt [(.pointer (some (Addr.mk b20 0 none))), (.pointer (some (Addr.mk b21 0 none))), (.int .i64 r117.2.2)])]),
 (C.new ty_impl_Key (.agg (Array.replicate 32 (.int .u8 0))) fun b21 =>
 C.chk [⟨4, 32, (Addr.mk b6 0 none), .agg, v114⟩] <|
 C.call n_laws_toKey [(.agg v114)] [.agg] fun r115 =>
 C.call n_impl_UndoCommit [(.agg r111), (.agg r113), (.agg r115), (.string x3)] [.agg, .agg, (.int .i64)] fun r117 =>
 C.st 2 (Addr.mk b20 0 none) (.agg r117.1) <|
 C.st 32 (Addr.mk b21 0 none) (.agg r117.2.1) <|
 jt [(.pointer (some (Addr.mk b20 0 none))), (.pointer (some (Addr.mk b21 0 none))), (.int .i64 r117.2.2)])]),
 (C.new ty_impl_Key (.agg (Array.replicate 32 (.int .u8 0))) fun b21 =>
 C.chk [⟨4, 32, (Addr.mk b6 0 none), .agg, v114⟩] <|
 C.all [
 (C.call n_laws_toKey [(.agg v114)] [.agg] fun r115 =>
 C.all [
 (C.call n_impl_UndoCommit [(.agg r111), (.agg r113), (.agg r115), (.string x3)] [.agg, .agg, (.int .i64)] fun r117 =>
 C.new ty_impl_Book (.agg (#[(.slice none 0 0), (.slice none 0 0)])) fun b20 =>
 C.st 2 (Addr.mk b20 0 none) (.agg r117.1) <|
 C.st 32 (Addr.mk b21 0 none) (.agg r117.2.1) <|
 jt [(.pointer (some (Addr.mk b20 0 none))), (.pointer (some (Addr.mk b21 0 none))), (.int .i64 r117.2.2)]),
 (C.new ty_impl_Book (.agg (#[(.slice none 0 0), (.slice none 0 0)])) fun b20 =>
 C.call n_impl_UndoCommit [(.agg r111), (.agg r113), (.agg r115), (.string x3)] [.agg, .agg, (.int .i64)] fun r117 =>
 C.st 2 (Addr.mk b20 0 none) (.agg r117.1) <|
 C.st 32 (Addr.mk b21 0 none) (.agg r117.2.1) <|
 jt [(.pointer (some (Addr.mk b20 0 none))), (.pointer (some (Addr.mk b21 0 none))), (.int .i64 r117.2.2)])]),
 (C.new ty_impl_Book (.agg (#[(.slice none 0 0), (.slice none 0 0)])) fun b20 =>
 C.chk [⟨4, 32, (Addr.mk b6 0 none), .agg, v114⟩] <|
 C.call n_laws_toKey [(.agg v114)] [.agg] fun r115 =>
 C.call n_impl_UndoCommit [(.agg r111), (.agg r113), (.agg r115), (.string x3)] [.agg, .agg, (.int .i64)] fun r117 =>
 C.st 2 (Addr.mk b20 0 none) (.agg r117.1) <|
 C.st 32 (Addr.mk b21 0 none) (.agg r117.2.1) <|
 jt [(.pointer (some (Addr.mk b20 0 none))), (.pointer (some (Addr.mk b21 0 none))), (.int .i64 r117.2.2)])])]),
 (C.new ty_impl_Book (.agg (#[(.slice none 0 0), (.slice none 0 0)])) fun b20 =>
 C.chk [⟨4, 32, (Addr.mk b6 0 none), .agg, v114⟩, ⟨2, 32, (Addr.mk b5 0 none), .agg, v112⟩] <|
 C.all [
 (C.call n_laws_toKey [(.agg v112)] [.agg] fun r113 =>
 C.chk [⟨4, 32, (Addr.mk b6 0 none), .agg, v114⟩] <|
 C.all [
 (C.call n_laws_toKey [(.agg v114)] [.agg] fun r115 =>
 C.all [
 (C.call n_impl_UndoCommit [(.agg r111), (.agg r113), (.agg r115), (.string x3)] [.agg, .agg, (.int .i64)] fun r117 =>
 C.new ty_impl_Key (.agg (Array.replicate 32 (.int .u8 0))) fun b21 =>
 C.st 2 (Addr.mk b20 0 none) (.agg r117.1) <|
 C.st 32 (Addr.mk b21 0 none) (.agg r117.2.1) <|
 jt [(.pointer (some (Addr.mk b20 0 none))), (.pointer (some (Addr.mk b21 0 none))), (.int .i64 r117.2.2)]),
 (C.new ty_impl_Key (.agg (Array.replicate 32 (.int .u8 0))) fun b21 =>
 C.call n_impl_UndoCommit [(.agg r111), (.agg r113), (.agg r115), (.string x3)] [.agg, .agg, (.int .i64)] fun r117 =>
 C.st 2 (Addr.mk b20 0 none) (.agg r117.1) <|
 C.st 32 (Addr.mk b21 0 none) (.agg r117.2.1) <|
 jt [(.pointer (some (Addr.mk b20 0 none))), (.pointer (some (Addr.mk b21 0 none))), (.int .i64 r117.2.2)])]),
 (C.new ty_impl_Key (.agg (Array.replicate 32 (.int .u8 0))) fun b21 =>
 C.chk [⟨4, 32, (Addr.mk b6 0 none), .agg, v114⟩] <|
 C.call n_laws_toKey [(.agg v114)] [.agg] fun r115 =>
 C.call n_impl_UndoCommit [(.agg r111), (.agg r113), (.agg r115), (.string x3)] [.agg, .agg, (.int .i64)] fun r117 =>
 C.st 2 (Addr.mk b20 0 none) (.agg r117.1) <|
 C.st 32 (Addr.mk b21 0 none) (.agg r117.2.1) <|
 jt [(.pointer (some (Addr.mk b20 0 none))), (.pointer (some (Addr.mk b21 0 none))), (.int .i64 r117.2.2)])]),
 (C.new ty_impl_Key (.agg (Array.replicate 32 (.int .u8 0))) fun b21 =>
 C.chk [⟨4, 32, (Addr.mk b6 0 none), .agg, v114⟩, ⟨2, 32, (Addr.mk b5 0 none), .agg, v112⟩] <|
 C.call n_laws_toKey [(.agg v112)] [.agg] fun r113 =>
 C.chk [⟨4, 32, (Addr.mk b6 0 none), .agg, v114⟩] <|
 C.call n_laws_toKey [(.agg v114)] [.agg] fun r115 =>
 C.call n_impl_UndoCommit [(.agg r111), (.agg r113), (.agg r115), (.string x3)] [.agg, .agg, (.int .i64)] fun r117 =>
 C.st 2 (Addr.mk b20 0 none) (.agg r117.1) <|
 C.st 32 (Addr.mk b21 0 none) (.agg r117.2.1) <|
 jt [(.pointer (some (Addr.mk b20 0 none))), (.pointer (some (Addr.mk b21 0 none))), (.int .i64 r117.2.2)])]),
 (C.new ty_impl_Key (.agg (Array.replicate 32 (.int .u8 0))) fun b21 =>
 C.chk [⟨4, 32, (Addr.mk b6 0 none), .agg, v114⟩, ⟨2, 32, (Addr.mk b5 0 none), .agg, v112⟩] <|
 C.all [
 (C.call n_laws_toKey [(.agg v112)] [.agg] fun r113 =>
 C.chk [⟨4, 32, (Addr.mk b6 0 none), .agg, v114⟩] <|
 C.all [
 (C.call n_laws_toKey [(.agg v114)] [.agg] fun r115 =>
 C.all [
 (C.call n_impl_UndoCommit [(.agg r111), (.agg r113), (.agg r115), (.string x3)] [.agg, .agg, (.int .i64)] fun r117 =>
 C.new ty_impl_Book (.agg (#[(.slice none 0 0), (.slice none 0 0)])) fun b20 =>
 C.st 2 (Addr.mk b20 0 none) (.agg r117.1) <|
 C.st 32 (Addr.mk b21 0 none) (.agg r117.2.1) <|
 jt [(.pointer (some (Addr.mk b20 0 none))), (.pointer (some (Addr.mk b21 0 none))), (.int .i64 r117.2.2)]),
 (C.new ty_impl_Book (.agg (#[(.slice none 0 0), (.slice none 0 0)])) fun b20 =>
 C.call n_impl_UndoCommit [(.agg r111), (.agg r113), (.agg r115), (.string x3)] [.agg, .agg, (.int .i64)] fun r117 =>
 C.st 2 (Addr.mk b20 0 none) (.agg r117.1) <|
 C.st 32 (Addr.mk b21 0 none) (.agg r117.2.1) <|
 jt [(.pointer (some (Addr.mk b20 0 none))), (.pointer (some (Addr.mk b21 0 none))), (.int .i64 r117.2.2)])]),
 (C.new ty_impl_Book (.agg (#[(.slice none 0 0), (.slice none 0 0)])) fun b20 =>
 C.chk [⟨4, 32, (Addr.mk b6 0 none), .agg, v114⟩] <|
 C.call n_laws_toKey [(.agg v114)] [.agg] fun r115 =>
 C.call n_impl_UndoCommit [(.agg r111), (.agg r113), (.agg r115), (.string x3)] [.agg, .agg, (.int .i64)] fun r117 =>
 C.st 2 (Addr.mk b20 0 none) (.agg r117.1) <|
 C.st 32 (Addr.mk b21 0 none) (.agg r117.2.1) <|
 jt [(.pointer (some (Addr.mk b20 0 none))), (.pointer (some (Addr.mk b21 0 none))), (.int .i64 r117.2.2)])]),
 (C.new ty_impl_Book (.agg (#[(.slice none 0 0), (.slice none 0 0)])) fun b20 =>
 C.chk [⟨4, 32, (Addr.mk b6 0 none), .agg, v114⟩, ⟨2, 32, (Addr.mk b5 0 none), .agg, v112⟩] <|
 C.call n_laws_toKey [(.agg v112)] [.agg] fun r113 =>
 C.chk [⟨4, 32, (Addr.mk b6 0 none), .agg, v114⟩] <|
 C.call n_laws_toKey [(.agg v114)] [.agg] fun r115 =>
 C.call n_impl_UndoCommit [(.agg r111), (.agg r113), (.agg r115), (.string x3)] [.agg, .agg, (.int .i64)] fun r117 =>
 C.st 2 (Addr.mk b20 0 none) (.agg r117.1) <|
 C.st 32 (Addr.mk b21 0 none) (.agg r117.2.1) <|
 jt [(.pointer (some (Addr.mk b20 0 none))), (.pointer (some (Addr.mk b21 0 none))), (.int .i64 r117.2.2)])])]),
 (C.new ty_impl_Book (.agg (#[(.slice none 0 0), (.slice none 0 0)])) fun b20 =>
 C.chk [⟨4, 32, (Addr.mk b6 0 none), .agg, v114⟩, ⟨2, 32, (Addr.mk b5 0 none), .agg, v112⟩, ⟨0, 2, (Addr.mk b4 0 none), .agg, v110⟩] <|
 C.all [
 (C.call n_laws_toBook [(.agg v110)] [.agg] fun r111 =>
 C.chk [⟨4, 32, (Addr.mk b6 0 none), .agg, v114⟩, ⟨2, 32, (Addr.mk b5 0 none), .agg, v112⟩] <|
 C.all [
 (C.call n_laws_toKey [(.agg v112)] [.agg] fun r113 =>
 C.chk [⟨4, 32, (Addr.mk b6 0 none), .agg, v114⟩] <|
 C.all [
 (C.call n_laws_toKey [(.agg v114)] [.agg] fun r115 =>
 C.all [
 (C.call n_impl_UndoCommit [(.agg r111), (.agg r113), (.agg r115), (.string x3)] [.agg, .agg, (.int .i64)] fun r117 =>
 C.new ty_impl_Key (.agg (Array.replicate 32 (.int .u8 0))) fun b21 =>
 C.st 2 (Addr.mk b20 0 none) (.agg r117.1) <|
 C.st 32 (Addr.mk b21 0 none) (.agg r117.2.1) <|
 jt [(.pointer (some (Addr.mk b20 0 none))), (.pointer (some (Addr.mk b21 0 none))), (.int .i64 r117.2.2)]),
 (C.new ty_impl_Key (.agg (Array.replicate 32 (.int .u8 0))) fun b21 =>
 C.call n_impl_UndoCommit [(.agg r111), (.agg r113), (.agg r115), (.string x3)] [.agg, .agg, (.int .i64)] fun r117 =>
 C.st 2 (Addr.mk b20 0 none) (.agg r117.1) <|
 C.st 32 (Addr.mk b21 0 none) (.agg r117.2.1) <|
 jt [(.pointer (some (Addr.mk b20 0 none))), (.pointer (some (Addr.mk b21 0 none))), (.int .i64 r117.2.2)])]),
 (C.new ty_impl_Key (.agg (Array.replicate 32 (.int .u8 0))) fun b21 =>
 C.chk [⟨4, 32, (Addr.mk b6 0 none), .agg, v114⟩] <|
 C.call n_laws_toKey [(.agg v114)] [.agg] fun r115 =>
 C.call n_impl_UndoCommit [(.agg r111), (.agg r113), (.agg r115), (.string x3)] [.agg, .agg, (.int .i64)] fun r117 =>
 C.st 2 (Addr.mk b20 0 none) (.agg r117.1) <|
 C.st 32 (Addr.mk b21 0 none) (.agg r117.2.1) <|
 jt [(.pointer (some (Addr.mk b20 0 none))), (.pointer (some (Addr.mk b21 0 none))), (.int .i64 r117.2.2)])]),
 (C.new ty_impl_Key (.agg (Array.replicate 32 (.int .u8 0))) fun b21 =>
 C.chk [⟨4, 32, (Addr.mk b6 0 none), .agg, v114⟩, ⟨2, 32, (Addr.mk b5 0 none), .agg, v112⟩] <|
 C.call n_laws_toKey [(.agg v112)] [.agg] fun r113 =>
 C.chk [⟨4, 32, (Addr.mk b6 0 none), .agg, v114⟩] <|
 C.call n_laws_toKey [(.agg v114)] [.agg] fun r115 =>
 C.call n_impl_UndoCommit [(.agg r111), (.agg r113), (.agg r115), (.string x3)] [.agg, .agg, (.int .i64)] fun r117 =>
 C.st 2 (Addr.mk b20 0 none) (.agg r117.1) <|
 C.st 32 (Addr.mk b21 0 none) (.agg r117.2.1) <|
 jt [(.pointer (some (Addr.mk b20 0 none))), (.pointer (some (Addr.mk b21 0 none))), (.int .i64 r117.2.2)])]),
 (C.new ty_impl_Key (.agg (Array.replicate 32 (.int .u8 0))) fun b21 =>
 C.chk [⟨4, 32, (Addr.mk b6 0 none), .agg, v114⟩, ⟨2, 32, (Addr.mk b5 0 none), .agg, v112⟩, ⟨0, 2, (Addr.mk b4 0 none), .agg, v110⟩] <|
 C.call n_laws_toBook [(.agg v110)] [.agg] fun r111 =>
 C.chk [⟨4, 32, (Addr.mk b6 0 none), .agg, v114⟩, ⟨2, 32, (Addr.mk b5 0 none), .agg, v112⟩] <|
 C.call n_laws_toKey [(.agg v112)] [.agg] fun r113 =>
 C.chk [⟨4, 32, (Addr.mk b6 0 none), .agg, v114⟩] <|
 C.call n_laws_toKey [(.agg v114)] [.agg] fun r115 =>
 C.call n_impl_UndoCommit [(.agg r111), (.agg r113), (.agg r115), (.string x3)] [.agg, .agg, (.int .i64)] fun r117 =>
 C.st 2 (Addr.mk b20 0 none) (.agg r117.1) <|
 C.st 32 (Addr.mk b21 0 none) (.agg r117.2.1) <|
 jt [(.pointer (some (Addr.mk b20 0 none))), (.pointer (some (Addr.mk b21 0 none))), (.int .i64 r117.2.2)])]),
 (C.new ty_impl_Key (.agg (Array.replicate 32 (.int .u8 0))) fun b21 =>
 C.chk [⟨4, 32, (Addr.mk b6 0 none), .agg, v114⟩, ⟨2, 32, (Addr.mk b5 0 none), .agg, v112⟩, ⟨0, 2, (Addr.mk b4 0 none), .agg, v110⟩] <|
 C.all [
 (C.call n_laws_toBook [(.agg v110)] [.agg] fun r111 =>
 C.chk [⟨4, 32, (Addr.mk b6 0 none), .agg, v114⟩, ⟨2, 32, (Addr.mk b5 0 none), .agg, v112⟩] <|
 C.all [
 (C.call n_laws_toKey [(.agg v112)] [.agg] fun r113 =>
 C.chk [⟨4, 32, (Addr.mk b6 0 none), .agg, v114⟩] <|
 C.all [
 (C.call n_laws_toKey [(.agg v114)] [.agg] fun r115 =>
 C.all [
 (C.call n_impl_UndoCommit [(.agg r111), (.agg r113), (.agg r115), (.string x3)] [.agg, .agg, (.int .i64)] fun r117 =>
 C.new ty_impl_Book (.agg (#[(.slice none 0 0), (.slice none 0 0)])) fun b20 =>
 C.st 2 (Addr.mk b20 0 none) (.agg r117.1) <|
 C.st 32 (Addr.mk b21 0 none) (.agg r117.2.1) <|
 jt [(.pointer (some (Addr.mk b20 0 none))), (.pointer (some (Addr.mk b21 0 none))), (.int .i64 r117.2.2)]),
 (C.new ty_impl_Book (.agg (#[(.slice none 0 0), (.slice none 0 0)])) fun b20 =>
 C.call n_impl_UndoCommit [(.agg r111), (.agg r113), (.agg r115), (.string x3)] [.agg, .agg, (.int .i64)] fun r117 =>
 C.st 2 (Addr.mk b20 0 none) (.agg r117.1) <|
 C.st 32 (Addr.mk b21 0 none) (.agg r117.2.1) <|
 jt [(.pointer (some (Addr.mk b20 0 none))), (.pointer (some (Addr.mk b21 0 none))), (.int .i64 r117.2.2)])]),
 (C.new ty_impl_Book (.agg (#[(.slice none 0 0), (.slice none 0 0)])) fun b20 =>
 C.chk [⟨4, 32, (Addr.mk b6 0 none), .agg, v114⟩] <|
 C.call n_laws_toKey [(.agg v114)] [.agg] fun r115 =>
 C.call n_impl_UndoCommit [(.agg r111), (.agg r113), (.agg r115), (.string x3)] [.agg, .agg, (.int .i64)] fun r117 =>
 C.st 2 (Addr.mk b20 0 none) (.agg r117.1) <|
 C.st 32 (Addr.mk b21 0 none) (.agg r117.2.1) <|
 jt [(.pointer (some (Addr.mk b20 0 none))), (.pointer (some (Addr.mk b21 0 none))), (.int .i64 r117.2.2)])]),
 (C.new ty_impl_Book (.agg (#[(.slice none 0 0), (.slice none 0 0)])) fun b20 =>
 C.chk [⟨4, 32, (Addr.mk b6 0 none), .agg, v114⟩, ⟨2, 32, (Addr.mk b5 0 none), .agg, v112⟩] <|
 C.call n_laws_toKey [(.agg v112)] [.agg] fun r113 =>
 C.chk [⟨4, 32, (Addr.mk b6 0 none), .agg, v114⟩] <|
 C.call n_laws_toKey [(.agg v114)] [.agg] fun r115 =>
 C.call n_impl_UndoCommit [(.agg r111), (.agg r113), (.agg r115), (.string x3)] [.agg, .agg, (.int .i64)] fun r117 =>
 C.st 2 (Addr.mk b20 0 none) (.agg r117.1) <|
 C.st 32 (Addr.mk b21 0 none) (.agg r117.2.1) <|
 jt [(.pointer (some (Addr.mk b20 0 none))), (.pointer (some (Addr.mk b21 0 none))), (.int .i64 r117.2.2)])]),
 (C.new ty_impl_Book (.agg (#[(.slice none 0 0), (.slice none 0 0)])) fun b20 =>
 C.chk [⟨4, 32, (Addr.mk b6 0 none), .agg, v114⟩, ⟨2, 32, (Addr.mk b5 0 none), .agg, v112⟩, ⟨0, 2, (Addr.mk b4 0 none), .agg, v110⟩] <|
 C.call n_laws_toBook [(.agg v110)] [.agg] fun r111 =>
 C.chk [⟨4, 32, (Addr.mk b6 0 none), .agg, v114⟩, ⟨2, 32, (Addr.mk b5 0 none), .agg, v112⟩] <|
 C.call n_laws_toKey [(.agg v112)] [.agg] fun r113 =>
 C.chk [⟨4, 32, (Addr.mk b6 0 none), .agg, v114⟩] <|
 C.call n_laws_toKey [(.agg v114)] [.agg] fun r115 =>
 C.call n_impl_UndoCommit [(.agg r111), (.agg r113), (.agg r115), (.string x3)] [.agg, .agg, (.int .i64)] fun r117 =>
 C.st 2 (Addr.mk b20 0 none) (.agg r117.1) <|
 C.st 32 (Addr.mk b21 0 none) (.agg r117.2.1) <|
 jt [(.pointer (some (Addr.mk b20 0 none))), (.pointer (some (Addr.mk b21 0 none))), (.int .i64 r117.2.2)])])]
 )
 )
 ) fun jt =>
 cond (decide (r78 < 0)) (
 C.ret (.bool false)
 ) (
 C.ld .agg 2 s183.1 fun v82 =>
 C.ld .agg 2 s113.1 fun v83 =>
 C.call n_laws_eqBook [(.agg v82), (.agg v83)] [.bool] fun r84 =>
 cond (!r84) (
 C.ret (.bool false)
 ) (
 C.ld .agg 32 s183.2.1 fun v88 =>
 C.ld .agg 32 s113.2.1 fun v89 =>
 C.call n_laws_eqKey [(.agg v88), (.agg v89)] [.bool] fun r90 =>
 cond (!r90) (
 C.ret (.bool false)
 ) (
 cond (s183.2.2 != s113.2.2) (
 C.ret (.bool false)
 ) (
 jt []
 )
 )
 )
 )
 ) fun jt =>
 C.draw <|
 C.ld .agg 2 (Addr.mk b13 0 none) fun v71 =>
 C.ld .agg 2 (Addr.mk b4 0 none) fun v72 =>
 C.call n_laws_toBook [(.agg v72)] [.agg] fun r73 =>
 C.chk [⟨0, 2, (Addr.mk b13 0 none), .agg, v71⟩] <|
 C.call n_laws_eqBook [(.agg v71), (.agg r73)] [.bool] fun r74 =>
 cond (!r74) (
 C.ret (.bool false)
 ) (
 jt []
 )
 ) fun jt =>
 C.ld .agg 2 s183.1 fun v56 =>
 C.ld .agg 2 s113.1 fun v57 =>
 C.call n_laws_eqBook [(.agg v56), (.agg v57)] [.bool] fun r58 =>
 cond (!r58) (
 C.ret (.bool false)
 ) (
 C.ld .agg 32 s183.2.1 fun v61 =>
 C.ld .agg 32 s113.2.1 fun v62 =>
 C.call n_laws_eqKey [(.agg v61), (.agg v62)] [.bool] fun r63 =>
 cond (!r63) (
 C.ret (.bool false)
 ) (
 cond (s183.2.2 != s113.2.2) (
 C.ret (.bool false)
 ) (
 jt []
 )
 )
 )
 ) fun jt =>
 C.draw <|
 C.ld .agg 2 (Addr.mk b13 0 none) fun v46 =>
 C.ld .agg 32 (Addr.mk b5 0 none) fun v47 =>
 C.ld .agg 32 (Addr.mk b6 0 none) fun v49 =>
 C.all [
 (C.call n_laws_toKey [(.agg v47)] [.agg] fun r48 =>
 C.chk [⟨3, 32, (Addr.mk b6 0 none), .agg, v49⟩, ⟨0, 2, (Addr.mk b13 0 none), .agg, v46⟩] <|
 C.all [
 (C.call n_laws_toKey [(.agg v49)] [.agg] fun r50 =>
 C.chk [⟨0, 2, (Addr.mk b13 0 none), .agg, v46⟩] <|
 C.all [
 (C.call n_impl_UndoCommit [(.agg v46), (.agg r48), (.agg r50), (.string x3)] [.agg, .agg, (.int .i64)] fun r52 =>
 C.all [
 (C.new ty_impl_Book (.agg (#[(.slice none 0 0), (.slice none 0 0)])) fun b14 =>
 C.new ty_impl_Key (.agg (Array.replicate 32 (.int .u8 0))) fun b15 =>
 C.st 2 (Addr.mk b14 0 none) (.agg r52.1) <|
 C.st 32 (Addr.mk b15 0 none) (.agg r52.2.1) <|
 jt [(.pointer (some (Addr.mk b14 0 none))), (.pointer (some (Addr.mk b15 0 none))), (.int .i64 r52.2.2)]),
 (C.new ty_impl_Key (.agg (Array.replicate 32 (.int .u8 0))) fun b15 =>
 C.new ty_impl_Book (.agg (#[(.slice none 0 0), (.slice none 0 0)])) fun b14 =>
 C.st 2 (Addr.mk b14 0 none) (.agg r52.1) <|
 C.st 32 (Addr.mk b15 0 none) (.agg r52.2.1) <|
 jt [(.pointer (some (Addr.mk b14 0 none))), (.pointer (some (Addr.mk b15 0 none))), (.int .i64 r52.2.2)])]),
 (C.new ty_impl_Book (.agg (#[(.slice none 0 0), (.slice none 0 0)])) fun b14 =>
 C.chk [⟨0, 2, (Addr.mk b13 0 none), .agg, v46⟩] <|
 C.all [
 (C.call n_impl_UndoCommit [(.agg v46), (.agg r48), (.agg r50), (.string x3)] [.agg, .agg, (.int .i64)] fun r52 =>
 C.new ty_impl_Key (.agg (Array.replicate 32 (.int .u8 0))) fun b15 =>
 C.st 2 (Addr.mk b14 0 none) (.agg r52.1) <|
 C.st 32 (Addr.mk b15 0 none) (.agg r52.2.1) <|
 jt [(.pointer (some (Addr.mk b14 0 none))), (.pointer (some (Addr.mk b15 0 none))), (.int .i64 r52.2.2)]),
 (C.new ty_impl_Key (.agg (Array.replicate 32 (.int .u8 0))) fun b15 =>
 C.chk [⟨0, 2, (Addr.mk b13 0 none), .agg, v46⟩] <|
 C.call n_impl_UndoCommit [(.agg v46), (.agg r48), (.agg r50), (.string x3)] [.agg, .agg, (.int .i64)] fun r52 =>
 C.st 2 (Addr.mk b14 0 none) (.agg r52.1) <|
 C.st 32 (Addr.mk b15 0 none) (.agg r52.2.1) <|
 jt [(.pointer (some (Addr.mk b14 0 none))), (.pointer (some (Addr.mk b15 0 none))), (.int .i64 r52.2.2)])]),
 (C.new ty_impl_Key (.agg (Array.replicate 32 (.int .u8 0))) fun b15 =>
 C.chk [⟨0, 2, (Addr.mk b13 0 none), .agg, v46⟩] <|
 C.all [
 (C.call n_impl_UndoCommit [(.agg v46), (.agg r48), (.agg r50), (.string x3)] [.agg, .agg, (.int .i64)] fun r52 =>
 C.new ty_impl_Book (.agg (#[(.slice none 0 0), (.slice none 0 0)])) fun b14 =>
 C.st 2 (Addr.mk b14 0 none) (.agg r52.1) <|
 C.st 32 (Addr.mk b15 0 none) (.agg r52.2.1) <|
 jt [(.pointer (some (Addr.mk b14 0 none))), (.pointer (some (Addr.mk b15 0 none))), (.int .i64 r52.2.2)]),
 (C.new ty_impl_Book (.agg (#[(.slice none 0 0), (.slice none 0 0)])) fun b14 =>
 C.chk [⟨0, 2, (Addr.mk b13 0 none), .agg, v46⟩] <|
 C.call n_impl_UndoCommit [(.agg v46), (.agg r48), (.agg r50), (.string x3)] [.agg, .agg, (.int .i64)] fun r52 =>
 C.st 2 (Addr.mk b14 0 none) (.agg r52.1) <|
 C.st 32 (Addr.mk b15 0 none) (.agg r52.2.1) <|
 jt [(.pointer (some (Addr.mk b14 0 none))), (.pointer (some (Addr.mk b15 0 none))), (.int .i64 r52.2.2)])])]),
 (C.new ty_impl_Book (.agg (#[(.slice none 0 0), (.slice none 0 0)])) fun b14 =>
 C.chk [⟨3, 32, (Addr.mk b6 0 none), .agg, v49⟩, ⟨0, 2, (Addr.mk b13 0 none), .agg, v46⟩] <|
 C.all [
 (C.call n_laws_toKey [(.agg v49)] [.agg] fun r50 =>
 C.chk [⟨0, 2, (Addr.mk b13 0 none), .agg, v46⟩] <|
 C.all [
 (C.call n_impl_UndoCommit [(.agg v46), (.agg r48), (.agg r50), (.string x3)] [.agg, .agg, (.int .i64)] fun r52 =>
 C.new ty_impl_Key (.agg (Array.replicate 32 (.int .u8 0))) fun b15 =>
 C.st 2 (Addr.mk b14 0 none) (.agg r52.1) <|
 C.st 32 (Addr.mk b15 0 none) (.agg r52.2.1) <|
 jt [(.pointer (some (Addr.mk b14 0 none))), (.pointer (some (Addr.mk b15 0 none))), (.int .i64 r52.2.2)]),
 (C.new ty_impl_Key (.agg (Array.replicate 32 (.int .u8 0))) fun b15 =>
 C.chk [⟨0, 2, (Addr.mk b13 0 none), .agg, v46⟩] <|
 C.call n_impl_UndoCommit [(.agg v46), (.agg r48), (.agg r50), (.string x3)] [.agg, .agg, (.int .i64)] fun r52 =>
 C.st 2 (Addr.mk b14 0 none) (.agg r52.1) <|
 C.st 32 (Addr.mk b15 0 none) (.agg r52.2.1) <|
 jt [(.pointer (some (Addr.mk b14 0 none))), (.pointer (some (Addr.mk b15 0 none))), (.int .i64 r52.2.2)])]),
 (C.new ty_impl_Key (.agg (Array.replicate 32 (.int .u8 0))) fun b15 =>
 C.chk [⟨3, 32, (Addr.mk b6 0 none), .agg, v49⟩, ⟨0, 2, (Addr.mk b13 0 none), .agg, v46⟩] <|
 C.call n_laws_toKey [(.agg v49)] [.agg] fun r50 =>
 C.chk [⟨0, 2, (Addr.mk b13 0 none), .agg, v46⟩] <|
 C.call n_impl_UndoCommit [(.agg v46), (.agg r48), (.agg r50), (.string x3)] [.agg, .agg, (.int .i64)] fun r52 =>
 C.st 2 (Addr.mk b14 0 none) (.agg r52.1) <|
 C.st 32 (Addr.mk b15 0 none) (.agg r52.2.1) <|
 jt [(.pointer (some (Addr.mk b14 0 none))), (.pointer (some (Addr.mk b15 0 none))), (.int .i64 r52.2.2)])]),
 (C.new ty_impl_Key (.agg (Array.replicate 32 (.int .u8 0))) fun b15 =>
 C.chk [⟨3, 32, (Addr.mk b6 0 none), .agg, v49⟩, ⟨0, 2, (Addr.mk b13 0 none), .agg, v46⟩] <|
 C.all [
 (C.call n_laws_toKey [(.agg v49)] [.agg] fun r50 =>
 C.chk [⟨0, 2, (Addr.mk b13 0 none), .agg, v46⟩] <|
 C.all [
 (C.call n_impl_UndoCommit [(.agg v46), (.agg r48), (.agg r50), (.string x3)] [.agg, .agg, (.int .i64)] fun r52 =>
 C.new ty_impl_Book (.agg (#[(.slice none 0 0), (.slice none 0 0)])) fun b14 =>
 C.st 2 (Addr.mk b14 0 none) (.agg r52.1) <|
 C.st 32 (Addr.mk b15 0 none) (.agg r52.2.1) <|
 jt [(.pointer (some (Addr.mk b14 0 none))), (.pointer (some (Addr.mk b15 0 none))), (.int .i64 r52.2.2)]),
 (C.new ty_impl_Book (.agg (#[(.slice none 0 0), (.slice none 0 0)])) fun b14 =>
 C.chk [⟨0, 2, (Addr.mk b13 0 none), .agg, v46⟩] <|
 C.call n_impl_UndoCommit [(.agg v46), (.agg r48), (.agg r50), (.string x3)] [.agg, .agg, (.int .i64)] fun r52 =>
 C.st 2 (Addr.mk b14 0 none) (.agg r52.1) <|
 C.st 32 (Addr.mk b15 0 none) (.agg r52.2.1) <|
 jt [(.pointer (some (Addr.mk b14 0 none))), (.pointer (some (Addr.mk b15 0 none))), (.int .i64 r52.2.2)])]),
 (C.new ty_impl_Book (.agg (#[(.slice none 0 0), (.slice none 0 0)])) fun b14 =>
 C.chk [⟨3, 32, (Addr.mk b6 0 none), .agg, v49⟩, ⟨0, 2, (Addr.mk b13 0 none), .agg, v46⟩] <|
 C.call n_laws_toKey [(.agg v49)] [.agg] fun r50 =>
 C.chk [⟨0, 2, (Addr.mk b13 0 none), .agg, v46⟩] <|
 C.call n_impl_UndoCommit [(.agg v46), (.agg r48), (.agg r50), (.string x3)] [.agg, .agg, (.int .i64)] fun r52 =>
 C.st 2 (Addr.mk b14 0 none) (.agg r52.1) <|
 C.st 32 (Addr.mk b15 0 none) (.agg r52.2.1) <|
 jt [(.pointer (some (Addr.mk b14 0 none))), (.pointer (some (Addr.mk b15 0 none))), (.int .i64 r52.2.2)])])]),
 (C.new ty_impl_Book (.agg (#[(.slice none 0 0), (.slice none 0 0)])) fun b14 =>
 C.chk [⟨3, 32, (Addr.mk b6 0 none), .agg, v49⟩, ⟨1, 32, (Addr.mk b5 0 none), .agg, v47⟩, ⟨0, 2, (Addr.mk b13 0 none), .agg, v46⟩] <|
 C.all [
 (C.call n_laws_toKey [(.agg v47)] [.agg] fun r48 =>
 C.chk [⟨3, 32, (Addr.mk b6 0 none), .agg, v49⟩, ⟨0, 2, (Addr.mk b13 0 none), .agg, v46⟩] <|
 C.all [
 (C.call n_laws_toKey [(.agg v49)] [.agg] fun r50 =>
 C.chk [⟨0, 2, (Addr.mk b13 0 none), .agg, v46⟩] <|
 C.all [
 (C.call n_impl_UndoCommit [(.agg v46), (.agg r48), (.agg r50), (.string x3)] [.agg, .agg, (.int .i64)] fun r52 =>
 C.new ty_impl_Key (.agg (Array.replicate 32 (.int .u8 0))) fun b15 =>
 C.st 2 (Addr.mk b14 0 none) (.agg r52.1) <|
 C.st 32 (Addr.mk b15 0 none) (.agg r52.2.1) <|
 jt [(.pointer (some (Addr.mk b14 0 none))), (.pointer (some (Addr.mk b15 0 none))), (.int .i64 r52.2.2)]),
 (C.new ty_impl_Key (.agg (Array.replicate 32 (.int .u8 0))) fun b15 =>
 C.chk [⟨0, 2, (Addr.mk b13 0 none), .agg, v46⟩] <|
 C.call n_impl_UndoCommit [(.agg v46), (.agg r48), (.agg r50), (.string x3)] [.agg, .agg, (.int .i64)] fun r52 =>
 C.st 2 (Addr.mk b14 0 none) (.agg r52.1) <|
 C.st 32 (Addr.mk b15 0 none) (.agg r52.2.1) <|
 jt [(.pointer (some (Addr.mk b14 0 none))), (.pointer (some (Addr.mk b15 0 none))), (.int .i64 r52.2.2)])]),
 (C.new ty_impl_Key (.agg (Array.replicate 32 (.int .u8 0))) fun b15 =>
 C.chk [⟨3, 32, (Addr.mk b6 0 none), .agg, v49⟩, ⟨0, 2, (Addr.mk b13 0 none), .agg, v46⟩] <|
 C.call n_laws_toKey [(.agg v49)] [.agg] fun r50 =>
 C.chk [⟨0, 2, (Addr.mk b13 0 none), .agg, v46⟩] <|
 C.call n_impl_UndoCommit [(.agg v46), (.agg r48), (.agg r50), (.string x3)] [.agg, .agg, (.int .i64)] fun r52 =>
 C.st 2 (Addr.mk b14 0 none) (.agg r52.1) <|
 C.st 32 (Addr.mk b15 0 none) (.agg r52.2.1) <|
 jt [(.pointer (some (Addr.mk b14 0 none))), (.pointer (some (Addr.mk b15 0 none))), (.int .i64 r52.2.2)])]),
 (C.new ty_impl_Key (.agg (Array.replicate 32 (.int .u8 0))) fun b15 =>
 C.chk [⟨3, 32, (Addr.mk b6 0 none), .agg, v49⟩, ⟨1, 32, (Addr.mk b5 0 none), .agg, v47⟩, ⟨0, 2, (Addr.mk b13 0 none), .agg, v46⟩] <|
 C.call n_laws_toKey [(.agg v47)] [.agg] fun r48 =>
 C.chk [⟨3, 32, (Addr.mk b6 0 none), .agg, v49⟩, ⟨0, 2, (Addr.mk b13 0 none), .agg, v46⟩] <|
 C.call n_laws_toKey [(.agg v49)] [.agg] fun r50 =>
 C.chk [⟨0, 2, (Addr.mk b13 0 none), .agg, v46⟩] <|
 C.call n_impl_UndoCommit [(.agg v46), (.agg r48), (.agg r50), (.string x3)] [.agg, .agg, (.int .i64)] fun r52 =>
 C.st 2 (Addr.mk b14 0 none) (.agg r52.1) <|
 C.st 32 (Addr.mk b15 0 none) (.agg r52.2.1) <|
 jt [(.pointer (some (Addr.mk b14 0 none))), (.pointer (some (Addr.mk b15 0 none))), (.int .i64 r52.2.2)])]),
 (C.new ty_impl_Key (.agg (Array.replicate 32 (.int .u8 0))) fun b15 =>
 C.chk [⟨3, 32, (Addr.mk b6 0 none), .agg, v49⟩, ⟨1, 32, (Addr.mk b5 0 none), .agg, v47⟩, ⟨0, 2, (Addr.mk b13 0 none), .agg, v46⟩] <|
 C.all [
 (C.call n_laws_toKey [(.agg v47)] [.agg] fun r48 =>
 C.chk [⟨3, 32, (Addr.mk b6 0 none), .agg, v49⟩, ⟨0, 2, (Addr.mk b13 0 none), .agg, v46⟩] <|
 C.all [
 (C.call n_laws_toKey [(.agg v49)] [.agg] fun r50 =>
 C.chk [⟨0, 2, (Addr.mk b13 0 none), .agg, v46⟩] <|
 C.all [
 (C.call n_impl_UndoCommit [(.agg v46), (.agg r48), (.agg r50), (.string x3)] [.agg, .agg, (.int .i64)] fun r52 =>
 C.new ty_impl_Book (.agg (#[(.slice none 0 0), (.slice none 0 0)])) fun b14 =>
 C.st 2 (Addr.mk b14 0 none) (.agg r52.1) <|
 C.st 32 (Addr.mk b15 0 none) (.agg r52.2.1) <|
 jt [(.pointer (some (Addr.mk b14 0 none))), (.pointer (some (Addr.mk b15 0 none))), (.int .i64 r52.2.2)]),
 (C.new ty_impl_Book (.agg (#[(.slice none 0 0), (.slice none 0 0)])) fun b14 =>
 C.chk [⟨0, 2, (Addr.mk b13 0 none), .agg, v46⟩] <|
 C.call n_impl_UndoCommit [(.agg v46), (.agg r48), (.agg r50), (.string x3)] [.agg, .agg, (.int .i64)] fun r52 =>
 C.st 2 (Addr.mk b14 0 none) (.agg r52.1) <|
 C.st 32 (Addr.mk b15 0 none) (.agg r52.2.1) <|
 jt [(.pointer (some (Addr.mk b14 0 none))), (.pointer (some (Addr.mk b15 0 none))), (.int .i64 r52.2.2)])]),
 (C.new ty_impl_Book (.agg (#[(.slice none 0 0), (.slice none 0 0)])) fun b14 =>
 C.chk [⟨3, 32, (Addr.mk b6 0 none), .agg, v49⟩, ⟨0, 2, (Addr.mk b13 0 none), .agg, v46⟩] <|
 C.call n_laws_toKey [(.agg v49)] [.agg] fun r50 =>
 C.chk [⟨0, 2, (Addr.mk b13 0 none), .agg, v46⟩] <|
 C.call n_impl_UndoCommit [(.agg v46), (.agg r48), (.agg r50), (.string x3)] [.agg, .agg, (.int .i64)] fun r52 =>
 C.st 2 (Addr.mk b14 0 none) (.agg r52.1) <|
 C.st 32 (Addr.mk b15 0 none) (.agg r52.2.1) <|
 jt [(.pointer (some (Addr.mk b14 0 none))), (.pointer (some (Addr.mk b15 0 none))), (.int .i64 r52.2.2)])]),
 (C.new ty_impl_Book (.agg (#[(.slice none 0 0), (.slice none 0 0)])) fun b14 =>
 C.chk [⟨3, 32, (Addr.mk b6 0 none), .agg, v49⟩, ⟨1, 32, (Addr.mk b5 0 none), .agg, v47⟩, ⟨0, 2, (Addr.mk b13 0 none), .agg, v46⟩] <|
 C.call n_laws_toKey [(.agg v47)] [.agg] fun r48 =>
 C.chk [⟨3, 32, (Addr.mk b6 0 none), .agg, v49⟩, ⟨0, 2, (Addr.mk b13 0 none), .agg, v46⟩] <|
 C.call n_laws_toKey [(.agg v49)] [.agg] fun r50 =>
 C.chk [⟨0, 2, (Addr.mk b13 0 none), .agg, v46⟩] <|
 C.call n_impl_UndoCommit [(.agg v46), (.agg r48), (.agg r50), (.string x3)] [.agg, .agg, (.int .i64)] fun r52 =>
 C.st 2 (Addr.mk b14 0 none) (.agg r52.1) <|
 C.st 32 (Addr.mk b15 0 none) (.agg r52.2.1) <|
 jt [(.pointer (some (Addr.mk b14 0 none))), (.pointer (some (Addr.mk b15 0 none))), (.int .i64 r52.2.2)])])]
 ) fun jt =>
 C.draw <|
 C.ld .agg 2 (Addr.mk b4 0 none) fun v32 =>
 C.ld .agg 32 (Addr.mk b5 0 none) fun v34 =>
 C.ld .agg 32 (Addr.mk b6 0 none) fun v36 =>
 C.all [
 (C.call n_laws_toBook [(.agg v32)] [.agg] fun r33 =>
 C.chk [⟨4, 32, (Addr.mk b6 0 none), .agg, v36⟩, ⟨2, 32, (Addr.mk b5 0 none), .agg, v34⟩] <|
 C.all [
 (C.call n_laws_toKey [(.agg v34)] [.agg] fun r35 =>
 C.chk [⟨4, 32, (Addr.mk b6 0 none), .agg, v36⟩] <|
 C.all [
 (C.call n_laws_toKey [(.agg v36)] [.agg] fun r37 =>
 C.all [
 (C.call n_spec_UndoCommit [(.agg r33), (.agg r35), (.agg r37), (.string x3)] [.agg, .agg, (.int .i64)] fun r39 =>
 C.all [
 (C.new ty_impl_Book (.agg (#[(.slice none 0 0), (.slice none 0 0)])) fun b10 =>
 C.new ty_impl_Key (.agg (Array.replicate 32 (.int .u8 0))) fun b11 =>
 C.st 2 (Addr.mk b10 0 none) (.agg r39.1) <|
 C.st 32 (Addr.mk b11 0 none) (.agg r39.2.1) <|
 jt [(.pointer (some (Addr.mk b10 0 none))), (.pointer (some (Addr.mk b11 0 none))), (.int .i64 r39.2.2)]),
 (C.new ty_impl_Key (.agg (Array.replicate 32 (.int .u8 0))) fun b11 =>
 C.new ty_impl_Book (.agg (#[(.slice none 0 0), (.slice none 0 0)])) fun b10 =>
 C.st 2 (Addr.mk b10 0 none) (.agg r39.1) <|
 C.st 32 (Addr.mk b11 0 none) (.agg r39.2.1) <|
 jt [(.pointer (some (Addr.mk b10 0 none))), (.pointer (some (Addr.mk b11 0 none))), (.int .i64 r39.2.2)])]),
 (C.new ty_impl_Book (.agg (#[(.slice none 0 0), (.slice none 0 0)])) fun b10 =>
 C.all [
 (C.call n_spec_UndoCommit [(.agg r33), (.agg r35), (.agg r37), (.string x3)] [.agg, .agg, (.int .i64)] fun r39 =>
 C.new ty_impl_Key (.agg (Array.replicate 32 (.int .u8 0))) fun b11 =>
 C.st 2 (Addr.mk b10 0 none) (.agg r39.1) <|
 C.st 32 (Addr.mk b11 0 none) (.agg r39.2.1) <|
 jt [(.pointer (some (Addr.mk b10 0 none))), (.pointer (some (Addr.mk b11 0 none))), (.int .i64 r39.2.2)]),
 (C.new ty_impl_Key (.agg (Array.replicate 32 (.int .u8 0))) fun b11 =>
 C.call n_spec_UndoCommit [(.agg r33), (.agg r35), (.agg r37), (.string x3)] [.agg, .agg, (.int .i64)] fun r39 =>
 C.st 2 (Addr.mk b10 0 none) (.agg r39.1) <|
 C.st 32 (Addr.mk b11 0 none) (.agg r39.2.1) <|
 jt [(.pointer (some (Addr.mk b10 0 none))), (.pointer (some (Addr.mk b11 0 none))), (.int .i64 r39.2.2)])]),
 (C.new ty_impl_Key (.agg (Array.replicate 32 (.int .u8 0))) fun b11 =>
 C.all [
 (C.call n_spec_UndoCommit [(.agg r33), (.agg r35), (.agg r37), (.string x3)] [.agg, .agg, (.int .i64)] fun r39 =>
 C.new ty_impl_Book (.agg (#[(.slice none 0 0), (.slice none 0 0)])) fun b10 =>
 C.st 2 (Addr.mk b10 0 none) (.agg r39.1) <|
 C.st 32 (Addr.mk b11 0 none) (.agg r39.2.1) <|
 jt [(.pointer (some (Addr.mk b10 0 none))), (.pointer (some (Addr.mk b11 0 none))), (.int .i64 r39.2.2)]),
 (C.new ty_impl_Book (.agg (#[(.slice none 0 0), (.slice none 0 0)])) fun b10 =>
 C.call n_spec_UndoCommit [(.agg r33), (.agg r35), (.agg r37), (.string x3)] [.agg, .agg, (.int .i64)] fun r39 =>
 C.st 2 (Addr.mk b10 0 none) (.agg r39.1) <|
 C.st 32 (Addr.mk b11 0 none) (.agg r39.2.1) <|
 jt [(.pointer (some (Addr.mk b10 0 none))), (.pointer (some (Addr.mk b11 0 none))), (.int .i64 r39.2.2)])])]),
 (C.new ty_impl_Book (.agg (#[(.slice none 0 0), (.slice none 0 0)])) fun b10 =>
 C.chk [⟨4, 32, (Addr.mk b6 0 none), .agg, v36⟩] <|
 C.all [
 (C.call n_laws_toKey [(.agg v36)] [.agg] fun r37 =>
 C.all [
 (C.call n_spec_UndoCommit [(.agg r33), (.agg r35), (.agg r37), (.string x3)] [.agg, .agg, (.int .i64)] fun r39 =>
 C.new ty_impl_Key (.agg (Array.replicate 32 (.int .u8 0))) fun b11 =>
 C.st 2 (Addr.mk b10 0 none) (.agg r39.1) <|
 C.st 32 (Addr.mk b11 0 none) (.agg r39.2.1) <|
 jt [(.pointer (some (Addr.mk b10 0 none))), (.pointer (some (Addr.mk b11 0 none))), (.int .i64 r39.2.2)]),
 (C.new ty_impl_Key (.agg (Array.replicate 32 (.int .u8 0))) fun b11 =>
 C.call n_spec_UndoCommit [(.agg r33), (.agg r35), (.agg r37), (.string x3)] [.agg, .agg, (.int .i64)] fun r39 =>
 C.st 2 (Addr.mk b10 0 none) (.agg r39.1) <|
 C.st 32 (Addr.mk b11 0 none) (.agg r39.2.1) <|
 jt [(.pointer (some (Addr.mk b10 0 none))), (.pointer (some (Addr.mk b11 0 none))), (.int .i64 r39.2.2)])]),
 (C.new ty_impl_Key (.agg (Array.replicate 32 (.int .u8 0))) fun b11 =>
 C.chk [⟨4, 32, (Addr.mk b6 0 none), .agg, v36⟩] <|
 C.call n_laws_toKey [(.agg v36)] [.agg] fun r37 =>
 C.call n_spec_UndoCommit [(.agg r33), (.agg r35), (.agg r37), (.string x3)] [.agg, .agg, (.int .i64)] fun r39 =>
 C.st 2 (Addr.mk b10 0 none) (.agg r39.1) <|
 C.st 32 (Addr.mk b11 0 none) (.agg r39.2.1) <|
 jt [(.pointer (some (Addr.mk b10 0 none))), (.pointer (some (Addr.mk b11 0 none))), (.int .i64 r39.2.2)])]),
 (C.new ty_impl_Key (.agg (Array.replicate 32 (.int .u8 0))) fun b11 =>
 C.chk [⟨4, 32, (Addr.mk b6 0 none), .agg, v36⟩] <|
 C.all [
 (C.call n_laws_toKey [(.agg v36)] [.agg] fun r37 =>
 C.all [
 (C.call n_spec_UndoCommit [(.agg r33), (.agg r35), (.agg r37), (.string x3)] [.agg, .agg, (.int .i64)] fun r39 =>
 C.new ty_impl_Book (.agg (#[(.slice none 0 0), (.slice none 0 0)])) fun b10 =>
 C.st 2 (Addr.mk b10 0 none) (.agg r39.1) <|
 C.st 32 (Addr.mk b11 0 none) (.agg r39.2.1) <|
 jt [(.pointer (some (Addr.mk b10 0 none))), (.pointer (some (Addr.mk b11 0 none))), (.int .i64 r39.2.2)]),
 (C.new ty_impl_Book (.agg (#[(.slice none 0 0), (.slice none 0 0)])) fun b10 =>
 C.call n_spec_UndoCommit [(.agg r33), (.agg r35), (.agg r37), (.string x3)] [.agg, .agg, (.int .i64)] fun r39 =>
 C.st 2 (Addr.mk b10 0 none) (.agg r39.1) <|
 C.st 32 (Addr.mk b11 0 none) (.agg r39.2.1) <|
 jt [(.pointer (some (Addr.mk b10 0 none))), (.pointer (some (Addr.mk b11 0 none))), (.int .i64 r39.2.2)])]),
 (C.new ty_impl_Book (.agg (#[(.slice none 0 0), (.slice none 0 0)])) fun b10 =>
 C.chk [⟨4, 32, (Addr.mk b6 0 none), .agg, v36⟩] <|
 C.call n_laws_toKey [(.agg v36)] [.agg] fun r37 =>
 C.call n_spec_UndoCommit [(.agg r33), (.agg r35), (.agg r37), (.string x3)] [.agg, .agg, (.int .i64)] fun r39 =>
 C.st 2 (Addr.mk b10 0 none) (.agg r39.1) <|
 C.st 32 (Addr.mk b11 0 none) (.agg r39.2.1) <|
 jt [(.pointer (some (Addr.mk b10 0 none))), (.pointer (some (Addr.mk b11 0 none))), (.int .i64 r39.2.2)])])]),
 (C.new ty_impl_Book (.agg (#[(.slice none 0 0), (.slice none 0 0)])) fun b10 =>
 C.chk [⟨4, 32, (Addr.mk b6 0 none), .agg, v36⟩, ⟨2, 32, (Addr.mk b5 0 none), .agg, v34⟩] <|
 C.all [
 (C.call n_laws_toKey [(.agg v34)] [.agg] fun r35 =>
 C.chk [⟨4, 32, (Addr.mk b6 0 none), .agg, v36⟩] <|
 C.all [
 (C.call n_laws_toKey [(.agg v36)] [.agg] fun r37 =>
 C.all [
 (C.call n_spec_UndoCommit [(.agg r33), (.agg r35), (.agg r37), (.string x3)] [.agg, .agg, (.int .i64)] fun r39 =>
 C.new ty_impl_Key (.agg (Array.replicate 32 (.int .u8 0))) fun b11 =>
 C.st 2 (Addr.mk b10 0 none) (.agg r39.1) <|
 C.st 32 (Addr.mk b11 0 none) (.agg r39.2.1) <|
 jt [(.pointer (some (Addr.mk b10 0 none))), (.pointer (some (Addr.mk b11 0 none))), (.int .i64 r39.2.2)]),
 (C.new ty_impl_Key (.agg (Array.replicate 32 (.int .u8 0))) fun b11 =>
 C.call n_spec_UndoCommit [(.agg r33), (.agg r35), (.agg r37), (.string x3)] [.agg, .agg, (.int .i64)] fun r39 =>
 C.st 2 (Addr.mk b10 0 none) (.agg r39.1) <|
 C.st 32 (Addr.mk b11 0 none) (.agg r39.2.1) <|
 jt [(.pointer (some (Addr.mk b10 0 none))), (.pointer (some (Addr.mk b11 0 none))), (.int .i64 r39.2.2)])]),
 (C.new ty_impl_Key (.agg (Array.replicate 32 (.int .u8 0))) fun b11 =>
 C.chk [⟨4, 32, (Addr.mk b6 0 none), .agg, v36⟩] <|
 C.call n_laws_toKey [(.agg v36)] [.agg] fun r37 =>
 C.call n_spec_UndoCommit [(.agg r33), (.agg r35), (.agg r37), (.string x3)] [.agg, .agg, (.int .i64)] fun r39 =>
 C.st 2 (Addr.mk b10 0 none) (.agg r39.1) <|
 C.st 32 (Addr.mk b11 0 none) (.agg r39.2.1) <|
 jt [(.pointer (some (Addr.mk b10 0 none))), (.pointer (some (Addr.mk b11 0 none))), (.int .i64 r39.2.2)])]),
 (C.new ty_impl_Key (.agg (Array.replicate 32 (.int .u8 0))) fun b11 =>
 C.chk [⟨4, 32, (Addr.mk b6 0 none), .agg, v36⟩, ⟨2, 32, (Addr.mk b5 0 none), .agg, v34⟩] <|
 C.call n_laws_toKey [(.agg v34)] [.agg] fun r35 =>
 C.chk [⟨4, 32, (Addr.mk b6 0 none), .agg, v36⟩] <|
 C.call n_laws_toKey [(.agg v36)] [.agg] fun r37 =>
 C.call n_spec_UndoCommit [(.agg r33), (.agg r35), (.agg r37), (.string x3)] [.agg, .agg, (.int .i64)] fun r39 =>
 C.st 2 (Addr.mk b10 0 none) (.agg r39.1) <|
 C.st 32 (Addr.mk b11 0 none) (.agg r39.2.1) <|
 jt [(.pointer (some (Addr.mk b10 0 none))), (.pointer (some (Addr.mk b11 0 none))), (.int .i64 r39.2.2)])]),
 (C.new ty_impl_Key (.agg (Array.replicate 32 (.int .u8 0))) fun b11 =>
 C.chk [⟨4, 32, (Addr.mk b6 0 none), .agg, v36⟩, ⟨2, 32, (Addr.mk b5 0 none), .agg, v34⟩] <|
 C.all [
 (C.call n_laws_toKey [(.agg v34)] [.agg] fun r35 =>
 C.chk [⟨4, 32, (Addr.mk b6 0 none), .agg, v36⟩] <|
 C.all [
 (C.call n_laws_toKey [(.agg v36)] [.agg] fun r37 =>
 C.all [
 (C.call n_spec_UndoCommit [(.agg r33), (.agg r35), (.agg r37), (.string x3)] [.agg, .agg, (.int .i64)] fun r39 =>
 C.new ty_impl_Book (.agg (#[(.slice none 0 0), (.slice none 0 0)])) fun b10 =>
 C.st 2 (Addr.mk b10 0 none) (.agg r39.1) <|
 C.st 32 (Addr.mk b11 0 none) (.agg r39.2.1) <|
 jt [(.pointer (some (Addr.mk b10 0 none))), (.pointer (some (Addr.mk b11 0 none))), (.int .i64 r39.2.2)]),
 (C.new ty_impl_Book (.agg (#[(.slice none 0 0), (.slice none 0 0)])) fun b10 =>
 C.call n_spec_UndoCommit [(.agg r33), (.agg r35), (.agg r37), (.string x3)] [.agg, .agg, (.int .i64)] fun r39 =>
 C.st 2 (Addr.mk b10 0 none) (.agg r39.1) <|
 C.st 32 (Addr.mk b11 0 none) (.agg r39.2.1) <|
 jt [(.pointer (some (Addr.mk b10 0 none))), (.pointer (some (Addr.mk b11 0 none))), (.int .i64 r39.2.2)])]),
 (C.new ty_impl_Book (.agg (#[(.slice none 0 0), (.slice none 0 0)])) fun b10 =>
 C.chk [⟨4, 32, (Addr.mk b6 0 none), .agg, v36⟩] <|
 C.call n_laws_toKey [(.agg v36)] [.agg] fun r37 =>
 C.call n_spec_UndoCommit [(.agg r33), (.agg r35), (.agg r37), (.string x3)] [.agg, .agg, (.int .i64)] fun r39 =>
 C.st 2 (Addr.mk b10 0 none) (.agg r39.1) <|
 C.st 32 (Addr.mk b11 0 none) (.agg r39.2.1) <|
 jt [(.pointer (some (Addr.mk b10 0 none))), (.pointer (some (Addr.mk b11 0 none))), (.int .i64 r39.2.2)])]),
 (C.new ty_impl_Book (.agg (#[(.slice none 0 0), (.slice none 0 0)])) fun b10 =>
 C.chk [⟨4, 32, (Addr.mk b6 0 none), .agg, v36⟩, ⟨2, 32, (Addr.mk b5 0 none), .agg, v34⟩] <|
 C.call n_laws_toKey [(.agg v34)] [.agg] fun r35 =>
 C.chk [⟨4, 32, (Addr.mk b6 0 none), .agg, v36⟩] <|
 C.call n_laws_toKey [(.agg v36)] [.agg] fun r37 =>
 C.call n_spec_UndoCommit [(.agg r33), (.agg r35), (.agg r37), (.string x3)] [.agg, .agg, (.int .i64)] fun r39 =>
 C.st 2 (Addr.mk b10 0 none) (.agg r39.1) <|
 C.st 32 (Addr.mk b11 0 none) (.agg r39.2.1) <|
 jt [(.pointer (some (Addr.mk b10 0 none))), (.pointer (some (Addr.mk b11 0 none))), (.int .i64 r39.2.2)])])]),
 (C.new ty_impl_Book (.agg (#[(.slice none 0 0), (.slice none 0 0)])) fun b10 =>
 C.chk [⟨4, 32, (Addr.mk b6 0 none), .agg, v36⟩, ⟨2, 32, (Addr.mk b5 0 none), .agg, v34⟩, ⟨0, 2, (Addr.mk b4 0 none), .agg, v32⟩] <|
 C.all [
 (C.call n_laws_toBook [(.agg v32)] [.agg] fun r33 =>
 C.chk [⟨4, 32, (Addr.mk b6 0 none), .agg, v36⟩, ⟨2, 32, (Addr.mk b5 0 none), .agg, v34⟩] <|
 C.all [
 (C.call n_laws_toKey [(.agg v34)] [.agg] fun r35 =>
 C.chk [⟨4, 32, (Addr.mk b6 0 none), .agg, v36⟩] <|
 C.all [
 (C.call n_laws_toKey [(.agg v36)] [.agg] fun r37 =>
 C.all [
 (C.call n_spec_UndoCommit [(.agg r33), (.agg r35), (.agg r37), (.string x3)] [.agg, .agg, (.int .i64)] fun r39 =>
 C.new ty_impl_Key (.agg (Array.replicate 32 (.int .u8 0))) fun b11 =>
 C.st 2 (Addr.mk b10 0 none) (.agg r39.1) <|
 C.st 32 (Addr.mk b11 0 none) (.agg r39.2.1) <|
 jt [(.pointer (some (Addr.mk b10 0 none))), (.pointer (some (Addr.mk b11 0 none))), (.int .i64 r39.2.2)]),
 (C.new ty_impl_Key (.agg (Array.replicate 32 (.int .u8 0))) fun b11 =>
 C.call n_spec_UndoCommit [(.agg r33), (.agg r35), (.agg r37), (.string x3)] [.agg, .agg, (.int .i64)] fun r39 =>
 C.st 2 (Addr.mk b10 0 none) (.agg r39.1) <|
 C.st 32 (Addr.mk b11 0 none) (.agg r39.2.1) <|
 jt [(.pointer (some (Addr.mk b10 0 none))), (.pointer (some (Addr.mk b11 0 none))), (.int .i64 r39.2.2)])]),
 (C.new ty_impl_Key (.agg (Array.replicate 32 (.int .u8 0))) fun b11 =>
 C.chk [⟨4, 32, (Addr.mk b6 0 none), .agg, v36⟩] <|
 C.call n_laws_toKey [(.agg v36)] [.agg] fun r37 =>
 C.call n_spec_UndoCommit [(.agg r33), (.agg r35), (.agg r37), (.string x3)] [.agg, .agg, (.int .i64)] fun r39 =>
 C.st 2 (Addr.mk b10 0 none) (.agg r39.1) <|
 C.st 32 (Addr.mk b11 0 none) (.agg r39.2.1) <|
 jt [(.pointer (some (Addr.mk b10 0 none))), (.pointer (some (Addr.mk b11 0 none))), (.int .i64 r39.2.2)])]),
 (C.new ty_impl_Key (.agg (Array.replicate 32 (.int .u8 0))) fun b11 =>
 C.chk [⟨4, 32, (Addr.mk b6 0 none), .agg, v36⟩, ⟨2, 32, (Addr.mk b5 0 none), .agg, v34⟩] <|
 C.call n_laws_toKey [(.agg v34)] [.agg] fun r35 =>
 C.chk [⟨4, 32, (Addr.mk b6 0 none), .agg, v36⟩] <|
 C.call n_laws_toKey [(.agg v36)] [.agg] fun r37 =>
 C.call n_spec_UndoCommit [(.agg r33), (.agg r35), (.agg r37), (.string x3)] [.agg, .agg, (.int .i64)] fun r39 =>
 C.st 2 (Addr.mk b10 0 none) (.agg r39.1) <|
 C.st 32 (Addr.mk b11 0 none) (.agg r39.2.1) <|
 jt [(.pointer (some (Addr.mk b10 0 none))), (.pointer (some (Addr.mk b11 0 none))), (.int .i64 r39.2.2)])]),
 (C.new ty_impl_Key (.agg (Array.replicate 32 (.int .u8 0))) fun b11 =>
 C.chk [⟨4, 32, (Addr.mk b6 0 none), .agg, v36⟩, ⟨2, 32, (Addr.mk b5 0 none), .agg, v34⟩, ⟨0, 2, (Addr.mk b4 0 none), .agg, v32⟩] <|
 C.call n_laws_toBook [(.agg v32)] [.agg] fun r33 =>
 C.chk [⟨4, 32, (Addr.mk b6 0 none), .agg, v36⟩, ⟨2, 32, (Addr.mk b5 0 none), .agg, v34⟩] <|
 C.call n_laws_toKey [(.agg v34)] [.agg] fun r35 =>
 C.chk [⟨4, 32, (Addr.mk b6 0 none), .agg, v36⟩] <|
 C.call n_laws_toKey [(.agg v36)] [.agg] fun r37 =>
 C.call n_spec_UndoCommit [(.agg r33), (.agg r35), (.agg r37), (.string x3)] [.agg, .agg, (.int .i64)] fun r39 =>
 C.st 2 (Addr.mk b10 0 none) (.agg r39.1) <|
 C.st 32 (Addr.mk b11 0 none) (.agg r39.2.1) <|
 jt [(.pointer (some (Addr.mk b10 0 none))), (.pointer (some (Addr.mk b11 0 none))), (.int .i64 r39.2.2)])]),
 (C.new ty_impl_Key (.agg (Array.replicate 32 (.int .u8 0))) fun b11 =>
 C.chk [⟨4, 32, (Addr.mk b6 0 none), .agg, v36⟩, ⟨2, 32, (Addr.mk b5 0 none), .agg, v34⟩, ⟨0, 2, (Addr.mk b4 0 none), .agg, v32⟩] <|
 C.all [
 (C.call n_laws_toBook [(.agg v32)] [.agg] fun r33 =>
 C.chk [⟨4, 32, (Addr.mk b6 0 none), .agg, v36⟩, ⟨2, 32, (Addr.mk b5 0 none), .agg, v34⟩] <|
 C.all [
 (C.call n_laws_toKey [(.agg v34)] [.agg] fun r35 =>
 C.chk [⟨4, 32, (Addr.mk b6 0 none), .agg, v36⟩] <|
 C.all [
 (C.call n_laws_toKey [(.agg v36)] [.agg] fun r37 =>
 C.all [
 (C.call n_spec_UndoCommit [(.agg r33), (.agg r35), (.agg r37), (.string x3)] [.agg, .agg, (.int .i64)] fun r39 =>
 C.new ty_impl_Book (.agg (#[(.slice none 0 0), (.slice none 0 0)])) fun b10 =>
 C.st 2 (Addr.mk b10 0 none) (.agg r39.1) <|
 C.st 32 (Addr.mk b11 0 none) (.agg r39.2.1) <|
 jt [(.pointer (some (Addr.mk b10 0 none))), (.pointer (some (Addr.mk b11 0 none))), (.int .i64 r39.2.2)]),
 (C.new ty_impl_Book (.agg (#[(.slice none 0 0), (.slice none 0 0)])) fun b10 =>
 C.call n_spec_UndoCommit [(.agg r33), (.agg r35), (.agg r37), (.string x3)] [.agg, .agg, (.int .i64)] fun r39 =>
 C.st 2 (Addr.mk b10 0 none) (.agg r39.1) <|
 C.st 32 (Addr.mk b11 0 none) (.agg r39.2.1) <|
 jt [(.pointer (some (Addr.mk b10 0 none))), (.pointer (some (Addr.mk b11 0 none))), (.int .i64 r39.2.2)])]),
 (C.new ty_impl_Book (.agg (#[(.slice none 0 0), (.slice none 0 0)])) fun b10 =>
 C.chk [⟨4, 32, (Addr.mk b6 0 none), .agg, v36⟩] <|
 C.call n_laws_toKey [(.agg v36)] [.agg] fun r37 =>
 C.call n_spec_UndoCommit [(.agg r33), (.agg r35), (.agg r37), (.string x3)] [.agg, .agg, (.int .i64)] fun r39 =>
 C.st 2 (Addr.mk b10 0 none) (.agg r39.1) <|
 C.st 32 (Addr.mk b11 0 none) (.agg r39.2.1) <|
 jt [(.pointer (some (Addr.mk b10 0 none))), (.pointer (some (Addr.mk b11 0 none))), (.int .i64 r39.2.2)])]),
 (C.new ty_impl_Book (.agg (#[(.slice none 0 0), (.slice none 0 0)])) fun b10 =>
 C.chk [⟨4, 32, (Addr.mk b6 0 none), .agg, v36⟩, ⟨2, 32, (Addr.mk b5 0 none), .agg, v34⟩] <|
 C.call n_laws_toKey [(.agg v34)] [.agg] fun r35 =>
 C.chk [⟨4, 32, (Addr.mk b6 0 none), .agg, v36⟩] <|
 C.call n_laws_toKey [(.agg v36)] [.agg] fun r37 =>
 C.call n_spec_UndoCommit [(.agg r33), (.agg r35), (.agg r37), (.string x3)] [.agg, .agg, (.int .i64)] fun r39 =>
 C.st 2 (Addr.mk b10 0 none) (.agg r39.1) <|
 C.st 32 (Addr.mk b11 0 none) (.agg r39.2.1) <|
 jt [(.pointer (some (Addr.mk b10 0 none))), (.pointer (some (Addr.mk b11 0 none))), (.int .i64 r39.2.2)])]),
 (C.new ty_impl_Book (.agg (#[(.slice none 0 0), (.slice none 0 0)])) fun b10 =>
 C.chk [⟨4, 32, (Addr.mk b6 0 none), .agg, v36⟩, ⟨2, 32, (Addr.mk b5 0 none), .agg, v34⟩, ⟨0, 2, (Addr.mk b4 0 none), .agg, v32⟩] <|
 C.call n_laws_toBook [(.agg v32)] [.agg] fun r33 =>
 C.chk [⟨4, 32, (Addr.mk b6 0 none), .agg, v36⟩, ⟨2, 32, (Addr.mk b5 0 none), .agg, v34⟩] <|
 C.call n_laws_toKey [(.agg v34)] [.agg] fun r35 =>
 C.chk [⟨4, 32, (Addr.mk b6 0 none), .agg, v36⟩] <|
 C.call n_laws_toKey [(.agg v36)] [.agg] fun r37 =>
 C.call n_spec_UndoCommit [(.agg r33), (.agg r35), (.agg r37), (.string x3)] [.agg, .agg, (.int .i64)] fun r39 =>
 C.st 2 (Addr.mk b10 0 none) (.agg r39.1) <|
 C.st 32 (Addr.mk b11 0 none) (.agg r39.2.1) <|
 jt [(.pointer (some (Addr.mk b10 0 none))), (.pointer (some (Addr.mk b11 0 none))), (.int .i64 r39.2.2)])])]
 )
 )
theorem laws_FnExactUndoCommit_eq (C : Comb) (x0 : Array Value) (x1 : Array Value) (x2 : Array Value) (x3 : ByteArray) : fT C Tryz.prog ⟨[], [(22, [(10, .ptr), (11, .ptr), (12, (.int .i64))]), (28, [(14, .ptr), (15, .ptr), (16, (.int .i64))]), (210, []), (225, []), (291, []), (79, [(20, .ptr), (21, .ptr), (22, (.int .i64))]), (405, [])], [7, 9, 12, 26], []⟩ n_laws_FnExactUndoCommit [(.agg x0), (.agg x1), (.agg x2), (.string x3)] = laws_FnExactUndoCommit C x0 x1 x2 x3 := by kernel_rfl
theorem laws_FnExactUndoCommit_calls {R : Value → World → Prop} {w : World} (x0 : Array Value) (x1 : Array Value) (x2 : Array Value) (x3 : ByteArray) (h : (laws_FnExactUndoCommit (real Tryz.prog R) x0 x1 x2 x3 : World → Prop) w) :
    Calls Tryz.prog n_laws_FnExactUndoCommit [(.agg x0), (.agg x1), (.agg x2), (.string x3)].toArray w fun e w' => ∃ v, e = .returned v ∧ R v w' := fT_sound mixed ⟨[], [(22, [(10, .ptr), (11, .ptr), (12, (.int .i64))]), (28, [(14, .ptr), (15, .ptr), (16, (.int .i64))]), (210, []), (225, []), (291, []), (79, [(20, .ptr), (21, .ptr), (22, (.int .i64))]), (405, [])], [7, 9, 12, 26], []⟩ (by rw [laws_FnExactUndoCommit_eq]; exact h)

def laws_szBook (C : Comb) (x0 : Array Value) (x1 : Int) : C.St :=
 C.new ty_laws_Book (.agg x0) fun b2 =>
 C.ld .slice 1 ((Addr.mk b2 0 none).add 0) fun v6 =>
 C.call n_laws_szCommitS [(.slice v6.a v6.n v6.c), (.int .i64 x1)] [(.int .i64)] fun r8 =>
 cond (decide (r8 < 0)) (
 C.ret (.int .i64 (-1))
 ) (
 C.ld .slice 1 ((Addr.mk b2 0 none).add 1) fun v12 =>
 C.call n_laws_szEntrySS [(.slice v12.a v12.n v12.c), (.int .i64 r8)] [(.int .i64)] fun r14 =>
 cond (decide (r14 < 0)) (
 C.ret (.int .i64 (-1))
 ) (
 C.ret (.int .i64 r14)
 )
 )
theorem laws_szBook_eq (C : Comb) (x0 : Array Value) (x1 : Int) : fT C Tryz.prog ⟨[], [], [], []⟩ n_laws_szBook [(.agg x0), (.int .i64 x1)] = laws_szBook C x0 x1 := by kernel_rfl
theorem laws_szBook_calls {R : Value → World → Prop} {w : World} (x0 : Array Value) (x1 : Int) (h : (laws_szBook (real Tryz.prog R) x0 x1 : World → Prop) w) :
    Calls Tryz.prog n_laws_szBook [(.agg x0), (.int .i64 x1)].toArray w fun e w' => ∃ v, e = .returned v ∧ R v w' := fT_sound mixed ⟨[], [], [], []⟩ (by rw [laws_szBook_eq]; exact h)

def laws_toBook (C : Comb) (x0 : Array Value) : C.St :=
 C.new ty_laws_Book (.agg x0) fun b1 =>
 C.new ty_impl_Book (.agg (#[(.slice none 0 0), (.slice none 0 0)])) fun b2 =>
 C.new ty_impl_Book (.agg (#[(.slice none 0 0), (.slice none 0 0)])) fun b3 =>
 C.ld .slice 1 ((Addr.mk b1 0 none).add 0) fun v5 =>
 C.call n_laws_toCommitS [(.slice v5.a v5.n v5.c)] [.slice] fun r6 =>
 C.st 1 ((Addr.mk b3 0 none).add 0) (.slice r6.a r6.n r6.c) <|
 C.ld .slice 1 ((Addr.mk b1 0 none).add 1) fun v9 =>
 C.call n_laws_toEntrySS [(.slice v9.a v9.n v9.c)] [.slice] fun r10 =>
 C.st 1 ((Addr.mk b3 0 none).add 1) (.slice r10.a r10.n r10.c) <|
 C.ld .agg 2 (Addr.mk b3 0 none) fun v12 =>
 C.st 2 (Addr.mk b2 0 none) (.agg v12) <|
 C.ld .agg 2 (Addr.mk b2 0 none) fun z9 =>
 C.ret (.agg z9)
theorem laws_toBook_eq (C : Comb) (x0 : Array Value) : fT C Tryz.prog ⟨[], [], [], []⟩ n_laws_toBook [(.agg x0)] = laws_toBook C x0 := by kernel_rfl
theorem laws_toBook_calls {R : Value → World → Prop} {w : World} (x0 : Array Value) (h : (laws_toBook (real Tryz.prog R) x0 : World → Prop) w) :
    Calls Tryz.prog n_laws_toBook [(.agg x0)].toArray w fun e w' => ∃ v, e = .returned v ∧ R v w' := fT_sound mixed ⟨[], [], [], []⟩ (by rw [laws_toBook_eq]; exact h)

def laws_toKey (C : Comb) (x0 : Array Value) : C.St :=
 C.new ty_arr32_uint8 (.agg x0) fun b1 =>
 C.new ty_impl_Key (.agg (Array.replicate 32 (.int .u8 0))) fun b2 =>
 C.new ty_impl_Key (.agg (Array.replicate 32 (.int .u8 0))) fun b3 =>
 C.loop (TL [(.int .i64)]) (embL [(.int .i64)]) [(.int .i64 0)] fun s4 ct4 => C.any fun _ =>
 cond (decide (s4 < 32)) (
 C.ix (some (Addr.mk b1 0 none)) 32 1 s4 fun p11 =>
 C.ld (.int .u8) 1 p11 fun v12 =>
 C.ix (some (Addr.mk b3 0 none)) 32 1 s4 fun p13 =>
 C.st 1 p13 (.int .u8 v12) <|
 ct4 [(.int .i64 (IntKind.wrap .i64 (s4 + 1)))]
 ) (
 C.ld .agg 32 (Addr.mk b3 0 none) fun v14 =>
 C.st 32 (Addr.mk b2 0 none) (.agg v14) <|
 C.ld .agg 32 (Addr.mk b2 0 none) fun z9 =>
 C.ret (.agg z9)
 )
theorem laws_toKey_eq (C : Comb) (x0 : Array Value) : fT C Tryz.prog ⟨[(3, [(4, (.int .i64))])], [], [], []⟩ n_laws_toKey [(.agg x0)] = laws_toKey C x0 := by kernel_rfl
theorem laws_toKey_calls {R : Value → World → Prop} {w : World} (x0 : Array Value) (h : (laws_toKey (real Tryz.prog R) x0 : World → Prop) w) :
    Calls Tryz.prog n_laws_toKey [(.agg x0)].toArray w fun e w' => ∃ v, e = .returned v ∧ R v w' := fT_sound mixed ⟨[(3, [(4, (.int .i64))])], [], [], []⟩ (by rw [laws_toKey_eq]; exact h)

def laws_eqBook (C : Comb) (x0 : Array Value) (x1 : Array Value) : C.St :=
 C.new ty_impl_Book (.agg x0) fun b2 =>
 C.new ty_impl_Book (.agg x1) fun b3 =>
 C.ld .slice 1 ((Addr.mk b2 0 none).add 0) fun v6 =>
 C.ld .slice 1 ((Addr.mk b3 0 none).add 0) fun v8 =>
 C.call n_laws_eqCommitS [(.slice v6.a v6.n v6.c), (.slice v8.a v8.n v8.c)] [.bool] fun r9 =>
 cond (!r9) (
 C.ret (.bool false)
 ) (
 C.ld .slice 1 ((Addr.mk b2 0 none).add 1) fun v12 =>
 C.ld .slice 1 ((Addr.mk b3 0 none).add 1) fun v14 =>
 C.call n_laws_eqEntrySS [(.slice v12.a v12.n v12.c), (.slice v14.a v14.n v14.c)] [.bool] fun r15 =>
 cond (!r15) (
 C.ret (.bool false)
 ) (
 C.ret (.bool true)
 )
 )
theorem laws_eqBook_eq (C : Comb) (x0 : Array Value) (x1 : Array Value) : fT C Tryz.prog ⟨[], [], [], []⟩ n_laws_eqBook [(.agg x0), (.agg x1)] = laws_eqBook C x0 x1 := by kernel_rfl
theorem laws_eqBook_calls {R : Value → World → Prop} {w : World} (x0 : Array Value) (x1 : Array Value) (h : (laws_eqBook (real Tryz.prog R) x0 x1 : World → Prop) w) :
    Calls Tryz.prog n_laws_eqBook [(.agg x0), (.agg x1)].toArray w fun e w' => ∃ v, e = .returned v ∧ R v w' := fT_sound mixed ⟨[], [], [], []⟩ (by rw [laws_eqBook_eq]; exact h)

def laws_markBook (C : Comb) (x0 : Array Value) (x1 : Int) : C.St :=
 C.new ty_impl_Book (.agg x0) fun b2 =>
 C.ld .slice 1 ((Addr.mk b2 0 none).add 0) fun v6 =>
 C.call n_laws_markCommitS [(.slice v6.a v6.n v6.c), (.int .i64 x1)] [(.int .i64)] fun r8 =>
 C.ld .slice 1 ((Addr.mk b2 0 none).add 1) fun v10 =>
 C.call n_laws_markEntrySS [(.slice v10.a v10.n v10.c), (.int .i64 r8)] [(.int .i64)] fun r12 =>
 C.ret (.int .i64 r12)
theorem laws_markBook_eq (C : Comb) (x0 : Array Value) (x1 : Int) : fT C Tryz.prog ⟨[], [], [], []⟩ n_laws_markBook [(.agg x0), (.int .i64 x1)] = laws_markBook C x0 x1 := by kernel_rfl
theorem laws_markBook_calls {R : Value → World → Prop} {w : World} (x0 : Array Value) (x1 : Int) (h : (laws_markBook (real Tryz.prog R) x0 x1 : World → Prop) w) :
    Calls Tryz.prog n_laws_markBook [(.agg x0), (.int .i64 x1)].toArray w fun e w' => ∃ v, e = .returned v ∧ R v w' := fT_sound mixed ⟨[], [], [], []⟩ (by rw [laws_markBook_eq]; exact h)

end Go.Proofs.YtaadgdbegpmlmaaGreat
