/- Printed by a program of this claim's author: each Go function as a Lean function over abstract combinators, and the equation that says that T makes it of the loaded code. -/
import Derived.Test.YtkifkdkjljcclaaGreatProg
import Derived.Test.YtkifkdkjljcclaaGreatPkLLnk02
namespace Go.Proofs.YtkifkdkjljcclaaGreat
open Go.Sx
theorem mixed : Tryz.prog.follows .mixedOrders = true := by kernel_rfl

abbrev n_laws_FnLinks : Nat := 8
abbrev n_laws_f6big : Nat := 10
abbrev n_spec_P6Pick : Nat := 13
abbrev n_spec_KeysOfStore : Nat := 39
abbrev n_spec_EqualKeys : Nat := 44
abbrev n_spec_P6Store : Nat := 76
abbrev n_impl_LinkCounts : Nat := 77
abbrev n_spec_LinkCounts : Nat := 78
abbrev n_impl_RootsOf : Nat := 79
abbrev n_spec_HasKey : Nat := 80
abbrev n_impl_LinkPath : Nat := 81
abbrev n_spec_LinkPath : Nat := 82
abbrev n_spec_ReachableFrom : Nat := 83
abbrev n_spec_GetBlob : Nat := 84
abbrev n_impl_LinksOf : Nat := 85
abbrev n_spec_StoreMap : Nat := 88
abbrev n_spec_StoreList : Nat := 96
abbrev n_spec_l00From : Nat := 101
abbrev n_spec_l05Open : Nat := 102
abbrev n_ptr_spec_l00Src_pick : Nat := 104
abbrev n_spec_l05SameBlob : Nat := 109
abbrev n_impl_within : Nat := 110
abbrev n_impl_size_byte : Nat := 111
abbrev n_spec_l01Bytes : Nat := 113
abbrev n_impl_sorted : Nat := 117
abbrev n_slices_DeleteFunc_sl_impl_Key_impl_Key : Nat := 118
abbrev n_slices_Clone_sl_impl_Key_impl_Key : Nat := 119
abbrev n_impl_compareKeys : Nat := 130
abbrev n_spec_l01Compare : Nat := 134
abbrev n_spec_l01Has : Nat := 136
abbrev n_spec_l05Drawn : Nat := 137
abbrev n_ptr_spec_l00Src_one : Nat := 138
abbrev n_ptr_spec_l05Store_keep : Nat := 144
abbrev n_ptr_spec_l05Store_store : Nat := 145
abbrev n_impl_newShop : Nat := 149
abbrev n_spec_l05Asked : Nat := 150
abbrev n_ptr_spec_l05Store_reach : Nat := 151
abbrev n_impl_keysIn : Nat := 159
abbrev n_spec_l01Hash : Nat := 161
abbrev n_ptr_impl_shop_counts : Nat := 178
abbrev n_ptr_spec_l05Store_counts : Nat := 179
abbrev n_ptr_impl_shop_has : Nat := 180
abbrev n_ptr_impl_shop_get : Nat := 181
abbrev n_impl_Blob_links : Nat := 182
abbrev n_slices_Reverse_sl_impl_Key_impl_Key : Nat := 183
abbrev n_ptr_spec_l05Store_find : Nat := 184
abbrev n_spec_l05Links : Nat := 185
abbrev n_spec_l05Copy : Nat := 186
abbrev n_impl_ValidBlob : Nat := 187
abbrev n_spec_l04Drawn : Nat := 188
abbrev n_spec_l04Ok : Nat := 194
abbrev n_spec_l04Nodes : Nat := 195
abbrev n_ptr_spec_l05Store_put : Nat := 196
abbrev n_spec_l04Bytes : Nat := 197
abbrev n_spec_l05Made : Nat := 198
abbrev n_spec_l05DrawChunks : Nat := 204
abbrev n_impl_Blob_key : Nat := 207
abbrev n_ptr_spec_l05Store_list : Nat := 210
abbrev n_spec_PutBlob : Nat := 214
abbrev n_spec_l05Blob : Nat := 216
abbrev n_spec_l05Key : Nat := 217
abbrev n_ptr_spec_l00Src_next : Nat := 219
abbrev n_impl_appendLittle : Nat := 224
abbrev n_impl_hash : Nat := 225
abbrev n_ptr_spec_l00Src_text : Nat := 226
abbrev n_slices_SortFunc_sl_impl_Key_impl_Key : Nat := 228
abbrev n_slices_Compact_sl_impl_Key_impl_Key : Nat := 229
abbrev n_slices_IndexFunc_sl_impl_Key_impl_Key : Nat := 230
abbrev n_spec_l00In : Nat := 233
abbrev n_slices_Compare_sl_byte_byte : Nat := 239
abbrev n_spec_PutFolder : Nat := 243
abbrev n_spec_DropBlob : Nat := 244
abbrev n_impl_ValidStore : Nat := 255
abbrev n_impl_Store_keys : Nat := 256
abbrev n_slices_Clone_sl_impl_Blob_impl_Blob : Nat := 257
abbrev n_spec_l01End : Nat := 261
abbrev n_spec_l01Start : Nat := 262
abbrev n_impl_ValidEntry : Nat := 263
abbrev n_ptr_impl_shop_find : Nat := 271
abbrev n_impl_ReadMapNode : Nat := 272
abbrev n_impl_EmptyMapKey : Nat := 273
abbrev n_impl_Blob_links_1 : Nat := 274
abbrev n_spec_l05Keys : Nat := 275
abbrev n_spec_l04Read : Nat := 276
abbrev n_spec_l04Empty : Nat := 277
abbrev n_spec_l04Put : Nat := 278
abbrev n_spec_l04DrawEntry : Nat := 279
abbrev n_slices_Concat_sl_byte_byte : Nat := 282
abbrev n_spec_l04Entry : Nat := 286
abbrev n_spec_l04Top : Nat := 287
abbrev n_spec_l04NodeKey : Nat := 288
abbrev n_spec_l03Half : Nat := 298
abbrev n_impl_littleNumber : Nat := 305
abbrev n_impl_blocks : Nat := 309
abbrev n_impl_padding : Nat := 310
abbrev n_impl_keyOf : Nat := 311
abbrev n_impl_mixed : Nat := 312
abbrev n_impl_StartState : Nat := 313
abbrev n_cmp_Compare_byte : Nat := 317
abbrev n_slices_ContainsFunc_sl_impl_Blob_impl_Blob : Nat := 323
abbrev n_impl_ValidStore_1 : Nat := 324
abbrev n_slices_IsSortedFunc_sl_impl_Key_impl_Key : Nat := 325
abbrev n_spec_l01Padded : Nat := 326
abbrev n_spec_l01Mix : Nat := 327
abbrev n_spec_l01Block : Nat := 328
abbrev n_impl_isName : Nat := 329
abbrev n_slices_BinarySearchFunc_sl_impl_Key_impl_Key_impl_Key : Nat := 333
abbrev n_spec_l04Names : Nat := 334
abbrev n_slices_Grow_sl_byte_byte : Nat := 335
abbrev n_spec_l04Name : Nat := 339
abbrev n_spec_l04Priority : Nat := 340
abbrev n_impl_MixBlock : Nat := 346
abbrev n_cmp_isNaN_byte : Nat := 356
abbrev n_slices_IndexFunc_sl_impl_Blob_impl_Blob : Nat := 357
abbrev n_spec_l01Turn : Nat := 358
abbrev n_math_bits_RotateLeft32 : Nat := 363
abbrev ty_x : Nat := 0
abbrev ty_int64 : Nat := 2
abbrev ty_int : Nat := 3
abbrev ty_bool : Nat := 4
abbrev ty_uint8 : Nat := 5
abbrev ty_string : Nat := 9
abbrev ty_sl_uint8 : Nat := 22
abbrev ty_sl_impl_Blob : Nat := 24
abbrev ty_impl_Store : Nat := 26
abbrev ty_impl_Blob : Nat := 39
abbrev ty_arr32_uint8 : Nat := 44
abbrev ty_impl_Key : Nat := 45
abbrev ty_sl_impl_Key : Nat := 53
abbrev ty_impl_Commit : Nat := 59
abbrev ty_impl_Lease : Nat := 73
abbrev ty_sl_impl_Entry : Nat := 85
abbrev ty_sl_arr32_uint8 : Nat := 92
abbrev ty_sl_int64 : Nat := 102
abbrev ty_sl_sl_uint8 : Nat := 117
abbrev ty_impl_ledger : Nat := 153
abbrev ty_spec_l05Store : Nat := 176
abbrev ty_map_impl_Key_bool : Nat := 178
abbrev ty_sl_bool : Nat := 182
abbrev ty_impl_shop : Nat := 187
abbrev ty_map_impl_Key_impl_Key : Nat := 218
abbrev ty_sl_int : Nat := 224
abbrev ty_sl_impl_MapNode : Nat := 229
abbrev ty_impl_Entry : Nat := 232
abbrev ty_impl_MapNode : Nat := 234
abbrev ty_uint64 : Nat := 263
abbrev ty_spec_l00Src : Nat := 265
abbrev ty_sl_string : Nat := 280
abbrev ty_uint32 : Nat := 306
abbrev ty_arr8_uint32 : Nat := 307
abbrev ty_impl_tree : Nat := 329
def laws_FnLinks (C : Comb) (x0 : Sl) (x1 : Sl) : C.St :=
 C.join (TL []) (embL []) (fun s3 => C.any fun _ =>
 C.call n_spec_P6Store [(.slice x0.a x0.n x0.c)] [.agg] fun r36 =>
 C.new ty_impl_Store (.agg (#[(.slice none 0 0)])) fun b5 =>
 C.st 1 (Addr.mk b5 0 none) (.agg r36) <|
 C.ld .agg 1 (Addr.mk b5 0 none) fun v38 =>
 C.call n_spec_KeysOfStore [(.agg v38)] [.slice, (.int .i64)] fun r39 =>
 C.ld .agg 1 (Addr.mk b5 0 none) fun v43 =>
 C.call n_impl_LinkCounts [(.agg v43)] [.slice, (.int .i64)] fun r44 =>
 C.ld .agg 1 (Addr.mk b5 0 none) fun v48 =>
 C.call n_spec_LinkCounts [(.agg v48)] [.slice, (.int .i64)] fun r49 =>
 C.ld .agg 1 (Addr.mk b5 0 none) fun v53 =>
 C.call n_impl_RootsOf [(.agg v53)] [.slice, (.int .i64)] fun r54 =>
 C.join (TL []) (embL []) (fun s14 => C.any fun _ =>
 C.loop (TL [(.int .i64), (.int .i64)]) (embL [(.int .i64), (.int .i64)]) [(.int .i64 0), (.int .i64 0)] fun s15 ct15 => C.any fun _ =>
 cond (decide (s15.2 < (r49.1.n : Int))) (
 C.join (TL []) (embL []) (fun s33 => C.any fun _ =>
 C.ix r49.1.a r49.1.n 1 s15.2 fun p117 =>
 C.ld (.int .i64) 1 p117 fun v118 =>
 cond (v118 == 0) (
 ct15 [(.int .i64 (IntKind.wrap .i64 (s15.1 + 1))), (.int .i64 (IntKind.wrap .i64 (s15.2 + 1)))]
 ) (
 ct15 [(.int .i64 s15.1), (.int .i64 (IntKind.wrap .i64 (s15.2 + 1)))]
 )
 ) fun jt =>
 C.draw <|
 C.ix r44.1.a r44.1.n 1 s15.2 fun p94 =>
 C.ld (.int .i64) 1 p94 fun v95 =>
 C.ix r49.1.a r49.1.n 1 s15.2 fun p98 =>
 C.ld (.int .i64) 1 p98 fun v99 =>
 cond (v95 != v99) (
 C.all [
 (C.chk [⟨7, 1, p98, (.int .i64), v99⟩, ⟨3, 1, p94, (.int .i64), v95⟩] <|
 C.chk [⟨7, 1, p98, (.int .i64), v99⟩, ⟨3, 1, p94, (.int .i64), v95⟩] <|
 C.chk [⟨7, 1, p98, (.int .i64), v99⟩, ⟨3, 1, p94, (.int .i64), v95⟩] <|
 C.ret (.bool false)),
 (C.chk [⟨7, 1, p98, (.int .i64), v99⟩, ⟨3, 1, p94, (.int .i64), v95⟩] <|
 C.all [
 (C.chk [⟨7, 1, p98, (.int .i64), v99⟩, ⟨3, 1, p94, (.int .i64), v95⟩] <|
 C.chk [⟨7, 1, p98, (.int .i64), v99⟩, ⟨3, 1, p94, (.int .i64), v95⟩] <|
 C.ret (.bool false)),
 (C.chk [⟨7, 1, p98, (.int .i64), v99⟩, ⟨3, 1, p94, (.int .i64), v95⟩] <|
 C.chk [⟨7, 1, p98, (.int .i64), v99⟩, ⟨3, 1, p94, (.int .i64), v95⟩] <|
 C.ret (.bool false))])]
 ) (
 C.ix r49.1.a r49.1.n 1 s15.2 fun p104 =>
 C.ix r39.1.a r39.1.n 32 s15.2 fun p110 =>
 C.all [
 (C.ld (.int .i64) 1 p104 fun v105 =>
 C.chk [⟨7, 1, p98, (.int .i64), v99⟩, ⟨3, 1, p94, (.int .i64), v95⟩] <|
 C.ld .agg 32 p110 fun v111 =>
 C.chk [⟨7, 1, p98, (.int .i64), v99⟩, ⟨3, 1, p94, (.int .i64), v95⟩] <|
 C.call n_spec_HasKey [(.slice r54.1.a r54.1.n r54.1.c), (.agg v111)] [.bool] fun r112 =>
 C.chk [⟨7, 1, p98, (.int .i64), v99⟩, ⟨3, 1, p94, (.int .i64), v95⟩] <|
 C.pur (eqB .neq ty_bool (.tmp 106) (.tmp 112) (.bool (v105 == 0)) (.bool r112)) .bool fun y113 =>
 cond y113 (
 C.ret (.bool false)
 ) (
 jt []
 )),
 (C.ld .agg 32 p110 fun v111 =>
 C.chk [⟨7, 1, p98, (.int .i64), v99⟩, ⟨3, 1, p94, (.int .i64), v95⟩] <|
 C.all [
 (C.ld (.int .i64) 1 p104 fun v105 =>
 C.chk [⟨7, 1, p98, (.int .i64), v99⟩, ⟨3, 1, p94, (.int .i64), v95⟩] <|
 C.call n_spec_HasKey [(.slice r54.1.a r54.1.n r54.1.c), (.agg v111)] [.bool] fun r112 =>
 C.chk [⟨7, 1, p98, (.int .i64), v99⟩, ⟨3, 1, p94, (.int .i64), v95⟩] <|
 C.pur (eqB .neq ty_bool (.tmp 106) (.tmp 112) (.bool (v105 == 0)) (.bool r112)) .bool fun y113 =>
 cond y113 (
 C.ret (.bool false)
 ) (
 jt []
 )),
 (C.call n_spec_HasKey [(.slice r54.1.a r54.1.n r54.1.c), (.agg v111)] [.bool] fun r112 =>
 C.chk [⟨7, 1, p98, (.int .i64), v99⟩, ⟨3, 1, p94, (.int .i64), v95⟩] <|
 C.ld (.int .i64) 1 p104 fun v105 =>
 C.chk [⟨7, 1, p98, (.int .i64), v99⟩, ⟨3, 1, p94, (.int .i64), v95⟩] <|
 C.pur (eqB .neq ty_bool (.tmp 106) (.tmp 112) (.bool (v105 == 0)) (.bool r112)) .bool fun y113 =>
 cond y113 (
 C.ret (.bool false)
 ) (
 jt []
 ))])]
 )
 ) (
 cond ((r54.1.n : Int) != s15.1) (
 C.ret (.bool false)
 ) (
 cond ((r39.1.n : Int) == 0) (
 C.ret (.bool true)
 ) (
 C.call n_spec_P6Pick [(.slice x1.a x1.n x1.c), (.int .i64 (r39.1.n : Int))] [(.int .i64)] fun r133 =>
 C.ix r39.1.a r39.1.n 32 r133 fun p134 =>
 C.ld .agg 32 p134 fun v135 =>
 C.new ty_impl_Key (.agg (Array.replicate 32 (.int .u8 0))) fun b16 =>
 C.st 32 (Addr.mk b16 0 none) (.agg v135) <|
 C.call n_spec_P6Pick [(.slice x0.a x0.n x0.c), (.int .i64 (r39.1.n : Int))] [(.int .i64)] fun r140 =>
 C.ix r39.1.a r39.1.n 32 r140 fun p141 =>
 C.ld .agg 32 p141 fun v142 =>
 C.new ty_impl_Key (.agg (Array.replicate 32 (.int .u8 0))) fun b17 =>
 C.st 32 (Addr.mk b17 0 none) (.agg v142) <|
 C.ld .agg 1 (Addr.mk b5 0 none) fun v144 =>
 C.ld .agg 32 (Addr.mk b16 0 none) fun v145 =>
 C.ld .agg 32 (Addr.mk b17 0 none) fun v146 =>
 C.call n_impl_LinkPath [(.agg v144), (.agg v145), (.agg v146)] [.slice, (.int .i64)] fun r147 =>
 C.ld .agg 1 (Addr.mk b5 0 none) fun v151 =>
 C.ld .agg 32 (Addr.mk b16 0 none) fun v152 =>
 C.ld .agg 32 (Addr.mk b17 0 none) fun v153 =>
 C.call n_spec_LinkPath [(.agg v151), (.agg v152), (.agg v153)] [.slice, (.int .i64)] fun r154 =>
 C.ld .agg 1 (Addr.mk b5 0 none) fun v158 =>
 C.ld .agg 32 (Addr.mk b16 0 none) fun v159 =>
 C.sem (Instr.buildSlice ty_sl_impl_Key 1 #[(0, (.agg v159))]) .slice fun y160 =>
 C.call n_spec_ReachableFrom [(.agg v158), (.slice y160.a y160.n y160.c)] [.slice, (.int .i64)] fun r161 =>
 C.join (TL []) (embL []) (fun s60 => C.any fun _ =>
 cond (r147.2 != 0) (
 C.ret (.bool (r147.2 == 6))
 ) (
 C.join (TL []) (embL []) (fun s69 => C.any fun _ =>
 C.loop (TL [(.int .i64)]) (embL [(.int .i64)]) [(.int .i64 1)] fun s70 ct70 => C.any fun _ =>
 cond (decide (s70 < (r154.1.n : Int))) (
 C.join (TL [.ptr, (.int .i64)]) (embL [.ptr, (.int .i64)]) (fun s78 => C.any fun _ =>
 C.ld .agg 2 s78.1 fun v226 =>
 C.call n_impl_LinksOf [(.agg v226)] [.slice, (.int .i64)] fun r227 =>
 cond (s78.2 != 0) (
 C.ret (.bool false)
 ) (
 cond (r227.2 != 0) (
 C.ret (.bool false)
 ) (
 C.ix r154.1.a r154.1.n 32 s70 fun p240 =>
 C.ld .agg 32 p240 fun v241 =>
 C.call n_spec_HasKey [(.slice r227.1.a r227.1.n r227.1.c), (.agg v241)] [.bool] fun r242 =>
 cond (!r242) (
 C.ret (.bool false)
 ) (
 ct70 [(.int .i64 (IntKind.wrap .i64 (s70 + 1)))]
 )
 )
 )
 ) fun jt =>
 C.draw <|
 C.ld .agg 1 (Addr.mk b5 0 none) fun v216 =>
 C.ix r154.1.a r154.1.n 32 (IntKind.wrap .i64 (s70 - 1)) fun p220 =>
 C.ld .agg 32 p220 fun v221 =>
 C.all [
 (C.call n_spec_GetBlob [(.agg v216), (.agg v221)] [.agg, (.int .i64)] fun r222 =>
 C.new ty_impl_Blob (.agg (#[(.int .u8 0), (.slice none 0 0)])) fun b25 =>
 C.st 2 (Addr.mk b25 0 none) (.agg r222.1) <|
 jt [(.pointer (some (Addr.mk b25 0 none))), (.int .i64 r222.2)]),
 (C.new ty_impl_Blob (.agg (#[(.int .u8 0), (.slice none 0 0)])) fun b25 =>
 C.chk [⟨5, 32, p220, .agg, v221⟩, ⟨0, 1, (Addr.mk b5 0 none), .agg, v216⟩] <|
 C.call n_spec_GetBlob [(.agg v216), (.agg v221)] [.agg, (.int .i64)] fun r222 =>
 C.st 2 (Addr.mk b25 0 none) (.agg r222.1) <|
 jt [(.pointer (some (Addr.mk b25 0 none))), (.int .i64 r222.2)])]
 ) (
 C.ret (.bool true)
 )
 ) fun jt =>
 C.draw <|
 cond ((r154.1.n : Int) == 0) (
 C.ret (.bool false)
 ) (
 C.ix r154.1.a r154.1.n 32 0 fun p194 =>
 C.ld .agg 32 p194 fun v195 =>
 C.ld .agg 32 (Addr.mk b16 0 none) fun v196 =>
 C.pur (eqB .neq ty_impl_Key (.tmp 195) (.tmp 196) (.agg v195) (.agg v196)) .bool fun y197 =>
 cond y197 (
 C.ret (.bool false)
 ) (
 C.ix r154.1.a r154.1.n 32 (IntKind.wrap .i64 ((r154.1.n : Int) - 1)) fun p204 =>
 C.ld .agg 32 p204 fun v205 =>
 C.ld .agg 32 (Addr.mk b17 0 none) fun v206 =>
 C.pur (eqB .neq ty_impl_Key (.tmp 205) (.tmp 206) (.agg v205) (.agg v206)) .bool fun y207 =>
 cond y207 (
 C.ret (.bool false)
 ) (
 jt []
 )
 )
 )
 )
 ) fun jt =>
 cond (r147.2 != r154.2) (
 C.ret (.bool false)
 ) (
 C.call n_spec_EqualKeys [(.slice r147.1.a r147.1.n r147.1.c), (.slice r154.1.a r154.1.n r154.1.c)] [.bool] fun r170 =>
 cond (!r170) (
 C.ret (.bool false)
 ) (
 cond (r161.2 != 0) (
 C.ret (.bool false)
 ) (
 C.ld .agg 32 (Addr.mk b17 0 none) fun v181 =>
 C.call n_spec_HasKey [(.slice r161.1.a r161.1.n r161.1.c), (.agg v181)] [.bool] fun r182 =>
 C.pur (eqB .neq ty_bool (.tmp 179) (.tmp 182) (.bool (r147.2 == 0)) (.bool r182)) .bool fun y183 =>
 cond y183 (
 C.ret (.bool false)
 ) (
 jt []
 )
 )
 )
 )
 )
 )
 )
 ) fun jt =>
 cond (r39.2 != 0) (
 C.ret (.bool false)
 ) (
 cond (r44.2 != r49.2) (
 C.ret (.bool false)
 ) (
 cond (r44.2 != 0) (
 C.ret (.bool false)
 ) (
 cond ((r44.1.n : Int) != (r49.1.n : Int)) (
 C.ret (.bool false)
 ) (
 cond ((r49.1.n : Int) != (r39.1.n : Int)) (
 C.ret (.bool false)
 ) (
 cond (r54.2 != 0) (
 C.ret (.bool false)
 ) (
 jt []
 )
 )
 )
 )
 )
 )
 ) fun jt =>
 C.call n_laws_f6big [(.slice x0.a x0.n x0.c)] [.bool] fun r30 =>
 cond r30 (
 C.ret (.bool true)
 ) (
 C.call n_laws_f6big [(.slice x1.a x1.n x1.c)] [.bool] fun r33 =>
 cond r33 (
 C.ret (.bool true)
 ) (
 jt []
 )
 )
theorem laws_FnLinks_eq (C : Comb) (x0 : Sl) (x1 : Sl) : fT C Tryz.prog ⟨[(12, [(14, (.int .i64)), (15, (.int .i64))]), (34, [(24, (.int .i64))])], [(102, []), (255, []), (342, []), (552, []), (624, []), (109, [(25, .ptr), (26, (.int .i64))])], [14, 36], []⟩ n_laws_FnLinks [(.slice x0.a x0.n x0.c), (.slice x1.a x1.n x1.c)] = laws_FnLinks C x0 x1 := by kernel_rfl
theorem laws_FnLinks_calls {R : Value → World → Prop} {w : World} (x0 : Sl) (x1 : Sl) (h : (laws_FnLinks (real Tryz.prog R) x0 x1 : World → Prop) w) :
    Calls Tryz.prog n_laws_FnLinks [(.slice x0.a x0.n x0.c), (.slice x1.a x1.n x1.c)].toArray w fun e w' => ∃ v, e = .returned v ∧ R v w' := fT_sound mixed ⟨[(12, [(14, (.int .i64)), (15, (.int .i64))]), (34, [(24, (.int .i64))])], [(102, []), (255, []), (342, []), (552, []), (624, []), (109, [(25, .ptr), (26, (.int .i64))])], [14, 36], []⟩ (by rw [laws_FnLinks_eq]; exact h)

def laws_f6big (C : Comb) (x0 : Sl) : C.St :=
 C.ret (.bool (decide ((x0.n : Int) > 4096)))
theorem laws_f6big_eq (C : Comb) (x0 : Sl) : fT C Tryz.prog ⟨[], [], [], []⟩ n_laws_f6big [(.slice x0.a x0.n x0.c)] = laws_f6big C x0 := by kernel_rfl
theorem laws_f6big_calls {R : Value → World → Prop} {w : World} (x0 : Sl) (h : (laws_f6big (real Tryz.prog R) x0 : World → Prop) w) :
    Calls Tryz.prog n_laws_f6big [(.slice x0.a x0.n x0.c)].toArray w fun e w' => ∃ v, e = .returned v ∧ R v w' := fT_sound mixed ⟨[], [], [], []⟩ (by rw [laws_f6big_eq]; exact h)

def spec_P6Pick (C : Comb) (x0 : Sl) (x1 : Int) : C.St :=
 C.call n_spec_l00From [(.slice x0.a x0.n x0.c)] [.ptr] fun r6 =>
 C.call n_ptr_spec_l00Src_pick [(.pointer (some r6)), (.int .i64 x1)] [(.int .i64)] fun r8 =>
 C.ret (.int .i64 r8)
theorem spec_P6Pick_eq (C : Comb) (x0 : Sl) (x1 : Int) : fT C Tryz.prog ⟨[], [], [], []⟩ n_spec_P6Pick [(.slice x0.a x0.n x0.c), (.int .i64 x1)] = spec_P6Pick C x0 x1 := by kernel_rfl
theorem spec_P6Pick_calls {R : Value → World → Prop} {w : World} (x0 : Sl) (x1 : Int) (h : (spec_P6Pick (real Tryz.prog R) x0 x1 : World → Prop) w) :
    Calls Tryz.prog n_spec_P6Pick [(.slice x0.a x0.n x0.c), (.int .i64 x1)].toArray w fun e w' => ∃ v, e = .returned v ∧ R v w' := fT_sound mixed ⟨[], [], [], []⟩ (by rw [spec_P6Pick_eq]; exact h)

def spec_KeysOfStore (C : Comb) (x0 : Array Value) : C.St :=
 C.new ty_impl_Store (.agg x0) fun b1 =>
 C.call n_spec_l05Open [(.pointer (some (Addr.mk b1 0 none)))] [.optr, .bool] fun r7 =>
 cond (!r7.2) (
 C.sem (Instr.buildSlice ty_sl_impl_Key 0 #[]) .slice fun y12 =>
 C.ret (.tuple #[(.slice y12.a y12.n y12.c), (.int .i64 1)])
 ) (
 dpT C r7.1 fun a4 =>
 C.ld .slice 1 (a4.add 1) fun v16 =>
 C.ret (.tuple #[(.slice v16.a v16.n v16.c), (.int .i64 0)])
 )
theorem spec_KeysOfStore_eq (C : Comb) (x0 : Array Value) : fT C Tryz.prog ⟨[], [], [], []⟩ n_spec_KeysOfStore [(.agg x0)] = spec_KeysOfStore C x0 := by kernel_rfl
theorem spec_KeysOfStore_calls {R : Value → World → Prop} {w : World} (x0 : Array Value) (h : (spec_KeysOfStore (real Tryz.prog R) x0 : World → Prop) w) :
    Calls Tryz.prog n_spec_KeysOfStore [(.agg x0)].toArray w fun e w' => ∃ v, e = .returned v ∧ R v w' := fT_sound mixed ⟨[], [], [], []⟩ (by rw [spec_KeysOfStore_eq]; exact h)

def spec_EqualKeys (C : Comb) (x0 : Sl) (x1 : Sl) : C.St :=
 cond ((x0.n : Int) != (x1.n : Int)) (
 C.ret (.bool false)
 ) (
 C.loop (TL [(.int .i64)]) (embL [(.int .i64)]) [(.int .i64 0)] fun s1 ct1 => C.any fun _ =>
 cond (decide (s1 < (x0.n : Int))) (
 C.draw <|
 C.ix x0.a x0.n 32 s1 fun p19 =>
 C.ld .agg 32 p19 fun v20 =>
 C.ix x1.a x1.n 32 s1 fun p23 =>
 C.ld .agg 32 p23 fun v24 =>
 C.pur (eqB .neq ty_impl_Key (.tmp 20) (.tmp 24) (.agg v20) (.agg v24)) .bool fun y25 =>
 cond y25 (
 C.ret (.bool false)
 ) (
 ct1 [(.int .i64 (IntKind.wrap .i64 (s1 + 1)))]
 )
 ) (
 C.ret (.bool true)
 )
 )
theorem spec_EqualKeys_eq (C : Comb) (x0 : Sl) (x1 : Sl) : fT C Tryz.prog ⟨[(4, [(5, (.int .i64))])], [], [], []⟩ n_spec_EqualKeys [(.slice x0.a x0.n x0.c), (.slice x1.a x1.n x1.c)] = spec_EqualKeys C x0 x1 := by kernel_rfl
theorem spec_EqualKeys_calls {R : Value → World → Prop} {w : World} (x0 : Sl) (x1 : Sl) (h : (spec_EqualKeys (real Tryz.prog R) x0 x1 : World → Prop) w) :
    Calls Tryz.prog n_spec_EqualKeys [(.slice x0.a x0.n x0.c), (.slice x1.a x1.n x1.c)].toArray w fun e w' => ∃ v, e = .returned v ∧ R v w' := fT_sound mixed ⟨[(4, [(5, (.int .i64))])], [], [], []⟩ (by rw [spec_EqualKeys_eq]; exact h)

def spec_P6Store (C : Comb) (x0 : Sl) : C.St :=
 C.new ty_impl_Store (.agg (#[(.slice none 0 0)])) fun b2 =>
 C.call n_spec_l00From [(.slice x0.a x0.n x0.c)] [.ptr] fun r7 =>
 C.call n_spec_l05Drawn [(.pointer (some r7))] [.agg, .slice] fun r8 =>
 C.new ty_impl_Store (.agg (#[(.slice none 0 0)])) fun b3 =>
 C.st 1 (Addr.mk b3 0 none) (.agg r8.1) <|
 C.ld .agg 1 (Addr.mk b3 0 none) fun v11 =>
 C.st 1 (Addr.mk b2 0 none) (.agg v11) <|
 C.ld .agg 1 (Addr.mk b2 0 none) fun z6 =>
 C.ret (.agg z6)
theorem spec_P6Store_eq (C : Comb) (x0 : Sl) : fT C Tryz.prog ⟨[], [], [], []⟩ n_spec_P6Store [(.slice x0.a x0.n x0.c)] = spec_P6Store C x0 := by kernel_rfl
theorem spec_P6Store_calls {R : Value → World → Prop} {w : World} (x0 : Sl) (h : (spec_P6Store (real Tryz.prog R) x0 : World → Prop) w) :
    Calls Tryz.prog n_spec_P6Store [(.slice x0.a x0.n x0.c)].toArray w fun e w' => ∃ v, e = .returned v ∧ R v w' := fT_sound mixed ⟨[], [], [], []⟩ (by rw [spec_P6Store_eq]; exact h)

def impl_LinkCounts (C : Comb) (x0 : Array Value) : C.St :=
 C.new ty_impl_Store (.agg x0) fun b1 =>
 C.ld .agg 1 (Addr.mk b1 0 none) fun v7 =>
 C.call n_impl_newShop [(.agg v7)] [.optr, .bool] fun r8 =>
 cond (!r8.2) (
 C.ret (.tuple #[(.slice none 0 0), (.int .i64 1)])
 ) (
 C.call n_ptr_impl_shop_counts [(.pointer r8.1)] [.slice] fun r14 =>
 C.ret (.tuple #[(.slice r14.a r14.n r14.c), (.int .i64 0)])
 )
theorem impl_LinkCounts_eq (C : Comb) (x0 : Array Value) : fT C Tryz.prog ⟨[], [], [], []⟩ n_impl_LinkCounts [(.agg x0)] = impl_LinkCounts C x0 := by kernel_rfl
theorem impl_LinkCounts_calls {R : Value → World → Prop} {w : World} (x0 : Array Value) (h : (impl_LinkCounts (real Tryz.prog R) x0 : World → Prop) w) :
    Calls Tryz.prog n_impl_LinkCounts [(.agg x0)].toArray w fun e w' => ∃ v, e = .returned v ∧ R v w' := fT_sound mixed ⟨[], [], [], []⟩ (by rw [impl_LinkCounts_eq]; exact h)

def spec_LinkCounts (C : Comb) (x0 : Array Value) : C.St :=
 C.new ty_impl_Store (.agg x0) fun b1 =>
 C.call n_spec_l05Open [(.pointer (some (Addr.mk b1 0 none)))] [.optr, .bool] fun r7 =>
 cond (!r7.2) (
 C.sem (Instr.buildSlice ty_sl_int64 0 #[]) .slice fun y12 =>
 C.ret (.tuple #[(.slice y12.a y12.n y12.c), (.int .i64 1)])
 ) (
 C.call n_ptr_spec_l05Store_counts [(.pointer r7.1)] [.slice] fun r14 =>
 C.ret (.tuple #[(.slice r14.a r14.n r14.c), (.int .i64 0)])
 )
theorem spec_LinkCounts_eq (C : Comb) (x0 : Array Value) : fT C Tryz.prog ⟨[], [], [], []⟩ n_spec_LinkCounts [(.agg x0)] = spec_LinkCounts C x0 := by kernel_rfl
theorem spec_LinkCounts_calls {R : Value → World → Prop} {w : World} (x0 : Array Value) (h : (spec_LinkCounts (real Tryz.prog R) x0 : World → Prop) w) :
    Calls Tryz.prog n_spec_LinkCounts [(.agg x0)].toArray w fun e w' => ∃ v, e = .returned v ∧ R v w' := fT_sound mixed ⟨[], [], [], []⟩ (by rw [spec_LinkCounts_eq]; exact h)

def impl_RootsOf (C : Comb) (x0 : Array Value) : C.St :=
 C.new ty_impl_Store (.agg x0) fun b1 =>
 C.ld .agg 1 (Addr.mk b1 0 none) fun v10 =>
 C.call n_impl_newShop [(.agg v10)] [.optr, .bool] fun r11 =>
 cond (!r11.2) (
 C.ret (.tuple #[(.slice none 0 0), (.int .i64 1)])
 ) (
 C.sem (Instr.buildSlice ty_sl_impl_Key 0 #[]) .slice fun y16 =>
 C.call n_ptr_impl_shop_counts [(.pointer r11.1)] [.slice] fun r18 =>
 C.loop (TL [.slice, (.int .i64)]) (embL [.slice, (.int .i64)]) [(.slice y16.a y16.n y16.c), (.int .i64 0)] fun s6 ct6 => C.any fun _ =>
 cond (decide (s6.2 < (r18.n : Int))) (
 C.ix r18.a r18.n 1 s6.2 fun p23 =>
 C.ld (.int .i64) 1 p23 fun v24 =>
 cond (v24 == 0) (
 dpT C r11.1 fun a9 =>
 C.ld .slice 1 (a9.add 0) fun v31 =>
 C.ix v31.a v31.n 32 s6.2 fun p33 =>
 C.ld .agg 32 p33 fun v34 =>
 C.sem (Instr.buildSlice ty_sl_impl_Key 1 #[(0, (.agg v34))]) .slice fun y35 =>
 C.sem (Builtin.append_ #[ty_sl_impl_Key, ty_sl_impl_Key] ty_sl_impl_Key #[(.slice s6.1.a s6.1.n s6.1.c), (.slice y35.a y35.n y35.c)]) .slice fun y36 =>
 ct6 [(.slice y36.a y36.n y36.c), (.int .i64 (IntKind.wrap .i64 (s6.2 + 1)))]
 ) (
 ct6 [(.slice s6.1.a s6.1.n s6.1.c), (.int .i64 (IntKind.wrap .i64 (s6.2 + 1)))]
 )
 ) (
 C.ret (.tuple #[(.slice s6.1.a s6.1.n s6.1.c), (.int .i64 0)])
 )
 )
theorem impl_RootsOf_eq (C : Comb) (x0 : Array Value) : fT C Tryz.prog ⟨[(6, [(6, .slice), (20, (.int .i64))])], [], [], []⟩ n_impl_RootsOf [(.agg x0)] = impl_RootsOf C x0 := by kernel_rfl
theorem impl_RootsOf_calls {R : Value → World → Prop} {w : World} (x0 : Array Value) (h : (impl_RootsOf (real Tryz.prog R) x0 : World → Prop) w) :
    Calls Tryz.prog n_impl_RootsOf [(.agg x0)].toArray w fun e w' => ∃ v, e = .returned v ∧ R v w' := fT_sound mixed ⟨[(6, [(6, .slice), (20, (.int .i64))])], [], [], []⟩ (by rw [impl_RootsOf_eq]; exact h)

def spec_HasKey (C : Comb) (x0 : Sl) (x1 : Array Value) : C.St :=
 C.new ty_impl_Key (.agg x1) fun b3 =>
 C.ld .agg 32 (Addr.mk b3 0 none) fun v6 =>
 C.call n_spec_l01Has [(.slice x0.a x0.n x0.c), (.agg v6)] [.bool] fun r7 =>
 C.ret (.bool r7)
theorem spec_HasKey_eq (C : Comb) (x0 : Sl) (x1 : Array Value) : fT C Tryz.prog ⟨[], [], [], []⟩ n_spec_HasKey [(.slice x0.a x0.n x0.c), (.agg x1)] = spec_HasKey C x0 x1 := by kernel_rfl
theorem spec_HasKey_calls {R : Value → World → Prop} {w : World} (x0 : Sl) (x1 : Array Value) (h : (spec_HasKey (real Tryz.prog R) x0 x1 : World → Prop) w) :
    Calls Tryz.prog n_spec_HasKey [(.slice x0.a x0.n x0.c), (.agg x1)].toArray w fun e w' => ∃ v, e = .returned v ∧ R v w' := fT_sound mixed ⟨[], [], [], []⟩ (by rw [spec_HasKey_eq]; exact h)

def impl_LinkPath (C : Comb) (x0 : Array Value) (x1 : Array Value) (x2 : Array Value) : C.St :=
 C.new ty_impl_Store (.agg x0) fun b3 =>
 C.new ty_impl_Key (.agg x1) fun b4 =>
 C.new ty_impl_Key (.agg x2) fun b5 =>
 C.ld .agg 1 (Addr.mk b3 0 none) fun v23 =>
 C.call n_impl_newShop [(.agg v23)] [.optr, .bool] fun r24 =>
 C.join (TL []) (embL []) (fun s10 => C.any fun _ =>
 C.join (TL [.val, .slice]) (embL [.val, .slice]) (fun s19 => C.any fun _ =>
 C.loop (TL [.slice, (.int .i64)]) (embL [.slice, (.int .i64)]) [(.slice s19.2.a s19.2.n s19.2.c), (.int .i64 0)] fun s20 ct20 => C.any fun _ =>
 cond (decide (s20.2 < (s20.1.n : Int))) (
 C.ix s20.1.a s20.1.n 32 s20.2 fun p57 =>
 C.ld .agg 32 p57 fun v58 =>
 C.call n_ptr_impl_shop_get [(.pointer r24.1), (.agg v58)] [.agg, .bool] fun r59 =>
 C.new ty_impl_Blob (.agg (#[(.int .u8 0), (.slice none 0 0)])) fun b13 =>
 C.st 2 (Addr.mk b13 0 none) (.agg r59.1) <|
 C.ld .agg 2 (Addr.mk b13 0 none) fun v62 =>
 C.call n_impl_Blob_links [(.agg v62)] [.slice] fun r63 =>
 C.loop (TL [.slice, (.int .i64)]) (embL [.slice, (.int .i64)]) [(.slice s20.1.a s20.1.n s20.1.c), (.int .i64 0)] fun s27 ct27 => C.any fun _ =>
 cond (decide (s27.2 < (r63.n : Int))) (
 C.ix r63.a r63.n 32 s27.2 fun p67 =>
 C.ld .agg 32 p67 fun v68 =>
 C.new ty_impl_Key (.agg (Array.replicate 32 (.int .u8 0))) fun b16 =>
 C.st 32 (Addr.mk b16 0 none) (.agg v68) <|
 C.ld .agg 32 (Addr.mk b16 0 none) fun v71 =>
 C.semL (Instr.lookup ty_map_impl_Key_impl_Key s19.1 (.agg v71) true) [.agg, .bool] fun y72 =>
 C.new ty_impl_Key (.agg (Array.replicate 32 (.int .u8 0))) fun b17 =>
 C.st 32 (Addr.mk b17 0 none) (.agg y72.1) <|
 C.join (TL [.bool]) (embL [.bool]) (fun s36 => C.any fun _ =>
 cond s36 (
 C.draw <|
 C.ld .agg 32 (Addr.mk b16 0 none) fun v83 =>
 C.ix s27.1.a s27.1.n 32 s20.2 fun p86 =>
 C.ld .agg 32 p86 fun v87 =>
 C.eff (Instr.mapUpdate ty_map_impl_Key_impl_Key s19.1 (.agg v83) (.agg v87)) <|
 C.ld .agg 32 (Addr.mk b16 0 none) fun v89 =>
 C.sem (Instr.buildSlice ty_sl_impl_Key 1 #[(0, (.agg v89))]) .slice fun y90 =>
 C.sem (Builtin.append_ #[ty_sl_impl_Key, ty_sl_impl_Key] ty_sl_impl_Key #[(.slice s27.1.a s27.1.n s27.1.c), (.slice y90.a y90.n y90.c)]) .slice fun y91 =>
 ct27 [(.slice y91.a y91.n y91.c), (.int .i64 (IntKind.wrap .i64 (s27.2 + 1)))]
 ) (
 ct27 [(.slice s27.1.a s27.1.n s27.1.c), (.int .i64 (IntKind.wrap .i64 (s27.2 + 1)))]
 )
 ) fun jt =>
 cond (!y72.2) (
 C.ld .agg 32 (Addr.mk b16 0 none) fun v79 =>
 C.call n_ptr_impl_shop_has [(.pointer r24.1), (.agg v79)] [.bool] fun r80 =>
 jt [(.bool r80)]
 ) (
 jt [(.bool false)]
 )
 ) (
 ct20 [(.slice s27.1.a s27.1.n s27.1.c), (.int .i64 (IntKind.wrap .i64 (s20.2 + 1)))]
 )
 ) (
 C.ld .agg 32 (Addr.mk b5 0 none) fun v95 =>
 C.semL (Instr.lookup ty_map_impl_Key_impl_Key s19.1 (.agg v95) true) [.agg, .bool] fun y96 =>
 C.new ty_impl_Key (.agg (Array.replicate 32 (.int .u8 0))) fun b19 =>
 C.st 32 (Addr.mk b19 0 none) (.agg y96.1) <|
 cond (!y96.2) (
 C.ret (.tuple #[(.slice none 0 0), (.int .i64 6)])
 ) (
 C.ld .agg 32 (Addr.mk b5 0 none) fun v101 =>
 C.sem (Instr.buildSlice ty_sl_impl_Key 1 #[(0, (.agg v101))]) .slice fun y102 =>
 C.loop (TL [.slice]) (embL [.slice]) [(.slice y102.a y102.n y102.c)] fun s48 ct48 => C.any fun _ =>
 C.ld .agg 32 (Addr.mk b5 0 none) fun v103 =>
 C.ld .agg 32 (Addr.mk b4 0 none) fun v104 =>
 C.pur (eqB .neq ty_impl_Key (.tmp 103) (.tmp 104) (.agg v103) (.agg v104)) .bool fun y105 =>
 cond y105 (
 C.ld .agg 32 (Addr.mk b5 0 none) fun v107 =>
 C.semL (Instr.lookup ty_map_impl_Key_impl_Key s19.1 (.agg v107) false) [.agg] fun y108 =>
 C.st 32 (Addr.mk b5 0 none) (.agg y108) <|
 C.ld .agg 32 (Addr.mk b5 0 none) fun v110 =>
 C.sem (Instr.buildSlice ty_sl_impl_Key 1 #[(0, (.agg v110))]) .slice fun y111 =>
 C.sem (Builtin.append_ #[ty_sl_impl_Key, ty_sl_impl_Key] ty_sl_impl_Key #[(.slice s48.a s48.n s48.c), (.slice y111.a y111.n y111.c)]) .slice fun y112 =>
 ct48 [(.slice y112.a y112.n y112.c)]
 ) (
 C.call n_slices_Reverse_sl_impl_Key_impl_Key [(.slice s48.a s48.n s48.c)] [] fun r114 =>
 C.ret (.tuple #[(.slice s48.a s48.n s48.c), (.int .i64 0)])
 )
 )
 )
 ) fun jt =>
 C.draw <|
 C.ld .agg 32 (Addr.mk b4 0 none) fun v42 =>
 C.ld .agg 32 (Addr.mk b4 0 none) fun v43 =>
 C.ld .agg 32 (Addr.mk b4 0 none) fun v45 =>
 C.all [
 (C.sem (Instr.makeMap ty_map_impl_Key_impl_Key none) .val fun y41 =>
 C.chk [⟨5, 32, (Addr.mk b4 0 none), .agg, v45⟩, ⟨2, 32, (Addr.mk b4 0 none), .agg, v43⟩, ⟨1, 32, (Addr.mk b4 0 none), .agg, v42⟩] <|
 C.all [
 (C.eff (Instr.mapUpdate ty_map_impl_Key_impl_Key y41 (.agg v42) (.agg v43)) <|
 C.chk [⟨5, 32, (Addr.mk b4 0 none), .agg, v45⟩] <|
 C.sem (Instr.buildSlice ty_sl_impl_Key 1 #[(0, (.agg v45))]) .slice fun y46 =>
 jt [y41, (.slice y46.a y46.n y46.c)]),
 (C.sem (Instr.buildSlice ty_sl_impl_Key 1 #[(0, (.agg v45))]) .slice fun y46 =>
 C.chk [⟨2, 32, (Addr.mk b4 0 none), .agg, v43⟩, ⟨1, 32, (Addr.mk b4 0 none), .agg, v42⟩] <|
 C.eff (Instr.mapUpdate ty_map_impl_Key_impl_Key y41 (.agg v42) (.agg v43)) <|
 jt [y41, (.slice y46.a y46.n y46.c)])]),
 (C.sem (Instr.buildSlice ty_sl_impl_Key 1 #[(0, (.agg v45))]) .slice fun y46 =>
 C.chk [⟨2, 32, (Addr.mk b4 0 none), .agg, v43⟩, ⟨1, 32, (Addr.mk b4 0 none), .agg, v42⟩] <|
 C.sem (Instr.makeMap ty_map_impl_Key_impl_Key none) .val fun y41 =>
 C.chk [⟨2, 32, (Addr.mk b4 0 none), .agg, v43⟩, ⟨1, 32, (Addr.mk b4 0 none), .agg, v42⟩] <|
 C.eff (Instr.mapUpdate ty_map_impl_Key_impl_Key y41 (.agg v42) (.agg v43)) <|
 jt [y41, (.slice y46.a y46.n y46.c)])]
 ) fun jt =>
 cond (!r24.2) (
 C.ret (.tuple #[(.slice none 0 0), (.int .i64 1)])
 ) (
 C.ld .agg 32 (Addr.mk b4 0 none) fun v32 =>
 C.call n_ptr_impl_shop_has [(.pointer r24.1), (.agg v32)] [.bool] fun r33 =>
 cond (!r33) (
 C.ret (.tuple #[(.slice none 0 0), (.int .i64 6)])
 ) (
 C.ld .agg 32 (Addr.mk b5 0 none) fun v37 =>
 C.call n_ptr_impl_shop_has [(.pointer r24.1), (.agg v37)] [.bool] fun r38 =>
 cond (!r38) (
 C.ret (.tuple #[(.slice none 0 0), (.int .i64 6)])
 ) (
 jt []
 )
 )
 )
theorem impl_LinkPath_eq (C : Comb) (x0 : Array Value) (x1 : Array Value) (x2 : Array Value) : fT C Tryz.prog ⟨[(8, [(11, .slice), (12, (.int .i64))]), (12, [(11, .slice), (65, (.int .i64))]), (23, [(21, .slice)])], [(8, []), (19, [(10, .val), (11, .slice)]), (46, [(81, .bool)])], [6, 16], []⟩ n_impl_LinkPath [(.agg x0), (.agg x1), (.agg x2)] = impl_LinkPath C x0 x1 x2 := by kernel_rfl
theorem impl_LinkPath_calls {R : Value → World → Prop} {w : World} (x0 : Array Value) (x1 : Array Value) (x2 : Array Value) (h : (impl_LinkPath (real Tryz.prog R) x0 x1 x2 : World → Prop) w) :
    Calls Tryz.prog n_impl_LinkPath [(.agg x0), (.agg x1), (.agg x2)].toArray w fun e w' => ∃ v, e = .returned v ∧ R v w' := fT_sound mixed ⟨[(8, [(11, .slice), (12, (.int .i64))]), (12, [(11, .slice), (65, (.int .i64))]), (23, [(21, .slice)])], [(8, []), (19, [(10, .val), (11, .slice)]), (46, [(81, .bool)])], [6, 16], []⟩ (by rw [impl_LinkPath_eq]; exact h)

def spec_LinkPath (C : Comb) (x0 : Array Value) (x1 : Array Value) (x2 : Array Value) : C.St :=
 C.new ty_impl_Store (.agg x0) fun b3 =>
 C.new ty_impl_Key (.agg x1) fun b4 =>
 C.new ty_impl_Key (.agg x2) fun b5 =>
 C.call n_spec_l05Open [(.pointer (some (Addr.mk b3 0 none)))] [.optr, .bool] fun r18 =>
 cond (!r18.2) (
 C.sem (Instr.buildSlice ty_sl_impl_Key 0 #[]) .slice fun y23 =>
 C.ret (.tuple #[(.slice y23.a y23.n y23.c), (.int .i64 1)])
 ) (
 C.join (TL []) (embL []) (fun s12 => C.any fun _ =>
 C.ld .agg 32 (Addr.mk b4 0 none) fun v35 =>
 C.sem (Instr.buildSlice ty_sl_impl_Key 1 #[(0, (.agg v35))]) .slice fun y36 =>
 C.sem (Instr.buildSlice ty_sl_int 1 #[(0, (.int .i64 (-1)))]) .slice fun y37 =>
 C.loop (TL [.slice, .slice, (.int .i64)]) (embL [.slice, .slice, (.int .i64)]) [(.slice y36.a y36.n y36.c), (.slice y37.a y37.n y37.c), (.int .i64 0)] fun s16 ct16 => C.any fun _ =>
 cond (decide (s16.2.2 < (s16.1.n : Int))) (
 C.draw <|
 C.ix s16.1.a s16.1.n 32 s16.2.2 fun p46 =>
 C.ld .agg 32 p46 fun v47 =>
 C.ld .agg 32 (Addr.mk b5 0 none) fun v48 =>
 C.pur (eqB .eql ty_impl_Key (.tmp 47) (.tmp 48) (.agg v47) (.agg v48)) .bool fun y49 =>
 cond y49 (
 C.sem (Instr.buildSlice ty_sl_impl_Key 0 #[]) .slice fun y50 =>
 C.loop (TL [.slice, (.int .i64)]) (embL [.slice, (.int .i64)]) [(.slice y50.a y50.n y50.c), (.int .i64 s16.2.2)] fun s22 ct22 => C.any fun _ =>
 cond (decide (s22.2 ≥ 0)) (
 C.ix s16.1.a s16.1.n 32 s22.2 fun p60 =>
 C.ld .agg 32 p60 fun v61 =>
 C.sem (Instr.buildSlice ty_sl_impl_Key 1 #[(0, (.agg v61))]) .slice fun y62 =>
 C.sem (Builtin.append_ #[ty_sl_impl_Key, ty_sl_impl_Key] ty_sl_impl_Key #[(.slice y62.a y62.n y62.c), (.slice s22.1.a s22.1.n s22.1.c)]) .slice fun y64 =>
 C.ix s16.2.1.a s16.2.1.n 1 s22.2 fun p56 =>
 C.ld (.int .i64) 1 p56 fun v57 =>
 ct22 [(.slice y64.a y64.n y64.c), (.int .i64 v57)]
 ) (
 C.ret (.tuple #[(.slice s22.1.a s22.1.n s22.1.c), (.int .i64 0)])
 )
 ) (
 C.join (TL [.slice]) (embL [.slice]) (fun s36 => C.any fun _ =>
 C.loop (TL [.slice, .slice, (.int .i64)]) (embL [.slice, .slice, (.int .i64)]) [(.slice s16.1.a s16.1.n s16.1.c), (.slice s16.2.1.a s16.2.1.n s16.2.1.c), (.int .i64 0)] fun s37 ct37 => C.any fun _ =>
 cond (decide (s37.2.2 < (s36.n : Int))) (
 C.join (TL [.bool]) (embL [.bool]) (fun s44 => C.any fun _ =>
 cond s44 (
 C.ix s36.a s36.n 32 s37.2.2 fun p103 =>
 C.ld .agg 32 p103 fun v104 =>
 C.sem (Instr.buildSlice ty_sl_impl_Key 1 #[(0, (.agg v104))]) .slice fun y105 =>
 C.sem (Builtin.append_ #[ty_sl_impl_Key, ty_sl_impl_Key] ty_sl_impl_Key #[(.slice s37.1.a s37.1.n s37.1.c), (.slice y105.a y105.n y105.c)]) .slice fun y106 =>
 C.sem (Instr.buildSlice ty_sl_int 1 #[(0, (.int .i64 s16.2.2))]) .slice fun y109 =>
 C.sem (Builtin.append_ #[ty_sl_int, ty_sl_int] ty_sl_int #[(.slice s37.2.1.a s37.2.1.n s37.2.1.c), (.slice y109.a y109.n y109.c)]) .slice fun y110 =>
 ct37 [(.slice y106.a y106.n y106.c), (.slice y110.a y110.n y110.c), (.int .i64 (IntKind.wrap .i64 (s37.2.2 + 1)))]
 ) (
 ct37 [(.slice s37.1.a s37.1.n s37.1.c), (.slice s37.2.1.a s37.2.1.n s37.2.1.c), (.int .i64 (IntKind.wrap .i64 (s37.2.2 + 1)))]
 )
 ) fun jt =>
 C.ix s36.a s36.n 32 s37.2.2 fun p87 =>
 C.ld .agg 32 p87 fun v88 =>
 C.call n_ptr_spec_l05Store_find [(.pointer r18.1), (.agg v88)] [(.int .i64)] fun r89 =>
 cond (decide (r89 ≥ 0)) (
 C.ix s36.a s36.n 32 s37.2.2 fun p95 =>
 C.ld .agg 32 p95 fun v96 =>
 C.call n_spec_l01Has [(.slice s37.1.a s37.1.n s37.1.c), (.agg v96)] [.bool] fun r97 =>
 jt [(.bool (!r97))]
 ) (
 jt [(.bool false)]
 )
 ) (
 ct16 [(.slice s37.1.a s37.1.n s37.1.c), (.slice s37.2.1.a s37.2.1.n s37.2.1.c), (.int .i64 (IntKind.wrap .i64 (s16.2.2 + 1)))]
 )
 ) fun jt =>
 C.draw <|
 dpT C r18.1 fun a29 =>
 C.ld .slice 1 (a29.add 0) fun v69 =>
 C.ix s16.1.a s16.1.n 32 s16.2.2 fun p73 =>
 C.ld .agg 32 p73 fun v74 =>
 C.call n_ptr_spec_l05Store_find [(.pointer r18.1), (.agg v74)] [(.int .i64)] fun r75 =>
 C.chk [⟨3, 1, (a29.add 0), .slice, v69⟩] <|
 C.ix v69.a v69.n 2 r75 fun p76 =>
 C.call n_spec_l05Links [(.pointer (some p76))] [.slice] fun r77 =>
 C.chk [⟨3, 1, (a29.add 0), .slice, v69⟩] <|
 jt [(.slice r77.a r77.n r77.c)]
 )
 ) (
 C.sem (Instr.buildSlice ty_sl_impl_Key 0 #[]) .slice fun y111 =>
 C.ret (.tuple #[(.slice y111.a y111.n y111.c), (.int .i64 6)])
 )
 ) fun jt =>
 C.ld .agg 32 (Addr.mk b4 0 none) fun v25 =>
 C.call n_ptr_spec_l05Store_find [(.pointer r18.1), (.agg v25)] [(.int .i64)] fun r26 =>
 cond (decide (r26 < 0)) (
 C.sem (Instr.buildSlice ty_sl_impl_Key 0 #[]) .slice fun y34 =>
 C.ret (.tuple #[(.slice y34.a y34.n y34.c), (.int .i64 6)])
 ) (
 C.ld .agg 32 (Addr.mk b5 0 none) fun v30 =>
 C.call n_ptr_spec_l05Store_find [(.pointer r18.1), (.agg v30)] [(.int .i64)] fun r31 =>
 cond (decide (r31 < 0)) (
 C.sem (Instr.buildSlice ty_sl_impl_Key 0 #[]) .slice fun y34 =>
 C.ret (.tuple #[(.slice y34.a y34.n y34.c), (.int .i64 6)])
 ) (
 jt []
 )
 )
 )
theorem spec_LinkPath_eq (C : Comb) (x0 : Array Value) (x1 : Array Value) (x2 : Array Value) : fT C Tryz.prog ⟨[(9, [(10, .slice), (11, .slice), (12, (.int .i64))]), (14, [(13, .slice), (14, (.int .i64))]), (20, [(10, .slice), (11, .slice), (16, (.int .i64))])], [(99, []), (55, [(15, .slice)]), (67, [(99, .bool)])], [18], []⟩ n_spec_LinkPath [(.agg x0), (.agg x1), (.agg x2)] = spec_LinkPath C x0 x1 x2 := by kernel_rfl
theorem spec_LinkPath_calls {R : Value → World → Prop} {w : World} (x0 : Array Value) (x1 : Array Value) (x2 : Array Value) (h : (spec_LinkPath (real Tryz.prog R) x0 x1 x2 : World → Prop) w) :
    Calls Tryz.prog n_spec_LinkPath [(.agg x0), (.agg x1), (.agg x2)].toArray w fun e w' => ∃ v, e = .returned v ∧ R v w' := fT_sound mixed ⟨[(9, [(10, .slice), (11, .slice), (12, (.int .i64))]), (14, [(13, .slice), (14, (.int .i64))]), (20, [(10, .slice), (11, .slice), (16, (.int .i64))])], [(99, []), (55, [(15, .slice)]), (67, [(99, .bool)])], [18], []⟩ (by rw [spec_LinkPath_eq]; exact h)

def spec_ReachableFrom (C : Comb) (x0 : Array Value) (x1 : Sl) : C.St :=
 C.new ty_impl_Store (.agg x0) fun b2 =>
 C.call n_spec_l05Asked [(.pointer (some (Addr.mk b2 0 none))), (.slice x1.a x1.n x1.c)] [.optr, (.int .i64)] fun r12 =>
 cond (r12.2 != 0) (
 C.sem (Instr.buildSlice ty_sl_impl_Key 0 #[]) .slice fun y17 =>
 C.ret (.tuple #[(.slice y17.a y17.n y17.c), (.int .i64 r12.2)])
 ) (
 C.call n_ptr_spec_l05Store_reach [(.pointer r12.1), (.slice x1.a x1.n x1.c)] [.slice, .slice] fun r22 =>
 C.call n_ptr_spec_l05Store_keep [(.pointer r12.1), (.slice r22.1.a r22.1.n r22.1.c)] [.ptr] fun r27 =>
 C.ld .slice 1 (r27.add 1) fun v30 =>
 C.ret (.tuple #[(.slice v30.a v30.n v30.c), (.int .i64 0)])
 )
theorem spec_ReachableFrom_eq (C : Comb) (x0 : Array Value) (x1 : Sl) : fT C Tryz.prog ⟨[], [], [], []⟩ n_spec_ReachableFrom [(.agg x0), (.slice x1.a x1.n x1.c)] = spec_ReachableFrom C x0 x1 := by kernel_rfl
theorem spec_ReachableFrom_calls {R : Value → World → Prop} {w : World} (x0 : Array Value) (x1 : Sl) (h : (spec_ReachableFrom (real Tryz.prog R) x0 x1 : World → Prop) w) :
    Calls Tryz.prog n_spec_ReachableFrom [(.agg x0), (.slice x1.a x1.n x1.c)].toArray w fun e w' => ∃ v, e = .returned v ∧ R v w' := fT_sound mixed ⟨[], [], [], []⟩ (by rw [spec_ReachableFrom_eq]; exact h)

def spec_GetBlob (C : Comb) (x0 : Array Value) (x1 : Array Value) : C.St :=
 C.new ty_impl_Store (.agg x0) fun b2 =>
 C.new ty_impl_Key (.agg x1) fun b3 =>
 C.new ty_impl_Blob (.agg (#[(.int .u8 0), (.slice none 0 0)])) fun b4 =>
 C.call n_spec_l05Open [(.pointer (some (Addr.mk b2 0 none)))] [.optr, .bool] fun r10 =>
 cond (!r10.2) (
 C.pur (Instr.build ty_impl_Blob #[]) .agg fun y15 =>
 C.st 2 (Addr.mk b4 0 none) (.agg y15) <|
 C.ld .agg 2 (Addr.mk b4 0 none) fun z6 =>
 C.ret (.tuple #[(.agg z6), (.int .i64 1)])
 ) (
 C.ld .agg 32 (Addr.mk b3 0 none) fun v17 =>
 C.call n_ptr_spec_l05Store_find [(.pointer r10.1), (.agg v17)] [(.int .i64)] fun r18 =>
 cond (decide (r18 < 0)) (
 C.pur (Instr.build ty_impl_Blob #[]) .agg fun y21 =>
 C.st 2 (Addr.mk b4 0 none) (.agg y21) <|
 C.ld .agg 2 (Addr.mk b4 0 none) fun z10 =>
 C.ret (.tuple #[(.agg z10), (.int .i64 6)])
 ) (
 dpT C r10.1 fun a11 =>
 C.ld .slice 1 (a11.add 0) fun v25 =>
 C.ix v25.a v25.n 2 r18 fun p27 =>
 C.ld .agg 2 p27 fun v28 =>
 C.call n_spec_l05Copy [(.agg v28)] [.agg] fun r29 =>
 C.st 2 (Addr.mk b4 0 none) (.agg r29) <|
 C.ld .agg 2 (Addr.mk b4 0 none) fun z16 =>
 C.ret (.tuple #[(.agg z16), (.int .i64 0)])
 )
 )
theorem spec_GetBlob_eq (C : Comb) (x0 : Array Value) (x1 : Array Value) : fT C Tryz.prog ⟨[], [], [], []⟩ n_spec_GetBlob [(.agg x0), (.agg x1)] = spec_GetBlob C x0 x1 := by kernel_rfl
theorem spec_GetBlob_calls {R : Value → World → Prop} {w : World} (x0 : Array Value) (x1 : Array Value) (h : (spec_GetBlob (real Tryz.prog R) x0 x1 : World → Prop) w) :
    Calls Tryz.prog n_spec_GetBlob [(.agg x0), (.agg x1)].toArray w fun e w' => ∃ v, e = .returned v ∧ R v w' := fT_sound mixed ⟨[], [], [], []⟩ (by rw [spec_GetBlob_eq]; exact h)

def impl_LinksOf (C : Comb) (x0 : Array Value) : C.St :=
 C.new ty_impl_Blob (.agg x0) fun b1 =>
 C.ld .agg 2 (Addr.mk b1 0 none) fun v4 =>
 C.call n_impl_ValidBlob [(.agg v4)] [.bool] fun r5 =>
 cond (!r5) (
 C.ret (.tuple #[(.slice none 0 0), (.int .i64 1)])
 ) (
 C.ld .agg 2 (Addr.mk b1 0 none) fun v7 =>
 C.call n_impl_Blob_links [(.agg v7)] [.slice] fun r8 =>
 C.ret (.tuple #[(.slice r8.a r8.n r8.c), (.int .i64 0)])
 )
theorem impl_LinksOf_eq (C : Comb) (x0 : Array Value) : fT C Tryz.prog ⟨[], [], [], []⟩ n_impl_LinksOf [(.agg x0)] = impl_LinksOf C x0 := by kernel_rfl
theorem impl_LinksOf_calls {R : Value → World → Prop} {w : World} (x0 : Array Value) (h : (impl_LinksOf (real Tryz.prog R) x0 : World → Prop) w) :
    Calls Tryz.prog n_impl_LinksOf [(.agg x0)].toArray w fun e w' => ∃ v, e = .returned v ∧ R v w' := fT_sound mixed ⟨[], [], [], []⟩ (by rw [impl_LinksOf_eq]; exact h)

end Go.Proofs.YtkifkdkjljcclaaGreat
