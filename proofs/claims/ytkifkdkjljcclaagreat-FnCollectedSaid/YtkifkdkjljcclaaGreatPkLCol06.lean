/- Printed by a program of this claim's author: each Go function as a Lean function over abstract combinators, and the equation that says that T makes it of the loaded code. -/
import Derived.Test.YtkifkdkjljcclaaGreatProg
import Derived.Test.YtkifkdkjljcclaaGreatPkLCol02
namespace Go.Proofs.YtkifkdkjljcclaaGreat
open Go.Sx
theorem mixed : Tryz.prog.follows .mixedOrders = true := by kernel_rfl

abbrev n_laws_FnCollected : Nat := 5
abbrev n_laws_f6big : Nat := 10
abbrev n_spec_P6Pick : Nat := 13
abbrev n_spec_SameStore : Nat := 17
abbrev n_spec_P6Rooted : Nat := 38
abbrev n_spec_KeysOfStore : Nat := 39
abbrev n_impl_Collect : Nat := 40
abbrev n_spec_Collect : Nat := 41
abbrev n_impl_DeadIn : Nat := 42
abbrev n_spec_DeadIn : Nat := 43
abbrev n_spec_EqualKeys : Nat := 44
abbrev n_impl_ReachableFrom : Nat := 45
abbrev n_impl_KeysOfStore : Nat := 46
abbrev n_impl_MissingFrom : Nat := 47
abbrev n_spec_MissingFrom : Nat := 48
abbrev n_spec_StoreMap : Nat := 88
abbrev n_spec_StoreList : Nat := 96
abbrev n_spec_l00From : Nat := 101
abbrev n_spec_l05Open : Nat := 102
abbrev n_ptr_spec_l00Src_pick : Nat := 104
abbrev n_spec_l05SameBlob : Nat := 109
abbrev n_impl_within : Nat := 110
abbrev n_impl_size_byte : Nat := 111
abbrev n_slices_Clone_sl_byte_byte : Nat := 112
abbrev n_spec_l01Bytes : Nat := 113
abbrev n_impl_sorted : Nat := 117
abbrev n_slices_DeleteFunc_sl_impl_Key_impl_Key : Nat := 118
abbrev n_slices_Clone_sl_impl_Key_impl_Key : Nat := 119
abbrev n_impl_compareKeys : Nat := 130
abbrev n_spec_l01Compare : Nat := 134
abbrev n_spec_l01Has : Nat := 136
abbrev n_spec_l05Drawn : Nat := 137
abbrev n_ptr_spec_l00Src_one : Nat := 138
abbrev n_spec_l01Any : Nat := 139
abbrev n_impl_alive : Nat := 140
abbrev n_ptr_impl_shop_kept : Nat := 141
abbrev n_impl_Collect_1 : Nat := 142
abbrev n_spec_l05Needed : Nat := 143
abbrev n_ptr_spec_l05Store_keep : Nat := 144
abbrev n_ptr_spec_l05Store_store : Nat := 145
abbrev n_impl_DeadIn_1 : Nat := 146
abbrev n_impl_reachCode : Nat := 147
abbrev n_ptr_impl_shop_reached : Nat := 148
abbrev n_impl_newShop : Nat := 149
abbrev n_spec_l05Asked : Nat := 150
abbrev n_ptr_spec_l05Store_reach : Nat := 151
abbrev n_spec_l05Ascending : Nat := 152
abbrev n_impl_keysIn : Nat := 159
abbrev n_spec_l01Hash : Nat := 161
abbrev n_ptr_impl_shop_has : Nat := 180
abbrev n_ptr_impl_shop_get : Nat := 181
abbrev n_impl_Blob_links : Nat := 182
abbrev n_ptr_spec_l05Store_find : Nat := 184
abbrev n_spec_l05Links : Nat := 185
abbrev n_spec_l05Copy : Nat := 186
abbrev n_impl_ValidBlob : Nat := 187
abbrev n_spec_l04Drawn : Nat := 188
abbrev n_spec_l04Ok : Nat := 194
abbrev n_spec_l04Nodes : Nat := 195
abbrev n_ptr_spec_l05Store_put : Nat := 196
abbrev n_spec_l04Bytes : Nat := 197
abbrev n_spec_l05Made : Nat := 198
abbrev n_spec_l05DrawChunks : Nat := 204
abbrev n_impl_Blob_key : Nat := 207
abbrev n_ptr_spec_l05Store_list : Nat := 210
abbrev n_spec_PutBlob : Nat := 214
abbrev n_spec_l05Blob : Nat := 216
abbrev n_spec_l05Key : Nat := 217
abbrev n_ptr_spec_l00Src_next : Nat := 219
abbrev n_impl_appendLittle : Nat := 224
abbrev n_impl_hash : Nat := 225
abbrev n_ptr_spec_l00Src_text : Nat := 226
abbrev n_slices_SortFunc_sl_impl_Key_impl_Key : Nat := 228
abbrev n_slices_Compact_sl_impl_Key_impl_Key : Nat := 229
abbrev n_slices_IndexFunc_sl_impl_Key_impl_Key : Nat := 230
abbrev n_spec_l00In : Nat := 233
abbrev n_slices_Compare_sl_byte_byte : Nat := 239
abbrev n_spec_l01Sort : Nat := 242
abbrev n_spec_PutFolder : Nat := 243
abbrev n_spec_DropBlob : Nat := 244
abbrev n_spec_l01Data : Nat := 245
abbrev n_impl_alive_1 : Nat := 246
abbrev n_slices_ContainsFunc_sl_impl_Lease_impl_Lease : Nat := 247
abbrev n_impl_alive_2 : Nat := 248
abbrev n_ptr_impl_shop_reach : Nat := 249
abbrev n_ptr_impl_shop_store : Nat := 250
abbrev n_spec_l05Lease : Nat := 251
abbrev n_slices_ContainsFunc_sl_sl_impl_Key_sl_impl_Key : Nat := 252
abbrev n_impl_reachCode_1 : Nat := 253
abbrev n_ptr_impl_shop_reached_1 : Nat := 254
abbrev n_impl_ValidStore : Nat := 255
abbrev n_impl_Store_keys : Nat := 256
abbrev n_slices_Clone_sl_impl_Blob_impl_Blob : Nat := 257
abbrev n_spec_l01End : Nat := 261
abbrev n_spec_l01Start : Nat := 262
abbrev n_impl_ValidEntry : Nat := 263
abbrev n_ptr_impl_shop_find : Nat := 271
abbrev n_impl_ReadMapNode : Nat := 272
abbrev n_impl_EmptyMapKey : Nat := 273
abbrev n_impl_Blob_links_1 : Nat := 274
abbrev n_spec_l05Keys : Nat := 275
abbrev n_spec_l04Read : Nat := 276
abbrev n_spec_l04Empty : Nat := 277
abbrev n_spec_l04Put : Nat := 278
abbrev n_spec_l04DrawEntry : Nat := 279
abbrev n_slices_Concat_sl_byte_byte : Nat := 282
abbrev n_spec_l04Entry : Nat := 286
abbrev n_spec_l04Top : Nat := 287
abbrev n_spec_l04NodeKey : Nat := 288
abbrev n_spec_l03Half : Nat := 298
abbrev n_impl_littleNumber : Nat := 305
abbrev n_impl_blocks : Nat := 309
abbrev n_impl_padding : Nat := 310
abbrev n_impl_keyOf : Nat := 311
abbrev n_impl_mixed : Nat := 312
abbrev n_impl_StartState : Nat := 313
abbrev n_cmp_Compare_byte : Nat := 317
abbrev n_spec_l01Xor : Nat := 318
abbrev n_slices_IndexFunc_sl_impl_Lease_impl_Lease : Nat := 319
abbrev n_ptr_impl_shop_reach_1 : Nat := 320
abbrev n_impl_Blob_copied : Nat := 321
abbrev n_slices_IndexFunc_sl_sl_impl_Key_sl_impl_Key : Nat := 322
abbrev n_slices_ContainsFunc_sl_impl_Blob_impl_Blob : Nat := 323
abbrev n_impl_ValidStore_1 : Nat := 324
abbrev n_slices_IsSortedFunc_sl_impl_Key_impl_Key : Nat := 325
abbrev n_spec_l01Padded : Nat := 326
abbrev n_spec_l01Mix : Nat := 327
abbrev n_spec_l01Block : Nat := 328
abbrev n_impl_isName : Nat := 329
abbrev n_slices_BinarySearchFunc_sl_impl_Key_impl_Key_impl_Key : Nat := 333
abbrev n_spec_l04Names : Nat := 334
abbrev n_slices_Grow_sl_byte_byte : Nat := 335
abbrev n_spec_l04Name : Nat := 339
abbrev n_spec_l04Priority : Nat := 340
abbrev n_impl_MixBlock : Nat := 346
abbrev n_cmp_isNaN_byte : Nat := 356
abbrev n_slices_IndexFunc_sl_impl_Blob_impl_Blob : Nat := 357
abbrev n_spec_l01Turn : Nat := 358
abbrev n_math_bits_RotateLeft32 : Nat := 363
abbrev ty_x : Nat := 0
abbrev ty_int64 : Nat := 2
abbrev ty_int : Nat := 3
abbrev ty_bool : Nat := 4
abbrev ty_uint8 : Nat := 5
abbrev ty_string : Nat := 9
abbrev ty_sl_uint8 : Nat := 22
abbrev ty_sl_impl_Blob : Nat := 24
abbrev ty_impl_Store : Nat := 26
abbrev ty_impl_Blob : Nat := 39
abbrev ty_arr32_uint8 : Nat := 44
abbrev ty_impl_Key : Nat := 45
abbrev ty_sl_impl_Key : Nat := 53
abbrev ty_impl_Commit : Nat := 59
abbrev ty_sl_impl_Lease : Nat := 71
abbrev ty_impl_Lease : Nat := 73
abbrev ty_sl_impl_Entry : Nat := 85
abbrev ty_sl_arr32_uint8 : Nat := 92
abbrev ty_sl_sl_uint8 : Nat := 117
abbrev ty_impl_ledger : Nat := 153
abbrev ty_func_int64_bool : Nat := 173
abbrev ty_spec_l05Store : Nat := 176
abbrev ty_ptr_impl_shop : Nat := 177
abbrev ty_map_impl_Key_bool : Nat := 178
abbrev ty_sl_bool : Nat := 182
abbrev ty_impl_shop : Nat := 187
abbrev ty_sl_impl_MapNode : Nat := 229
abbrev ty_impl_Entry : Nat := 232
abbrev ty_impl_MapNode : Nat := 234
abbrev ty_uint64 : Nat := 263
abbrev ty_spec_l00Src : Nat := 265
abbrev ty_sl_string : Nat := 280
abbrev ty_sl_sl_impl_Key : Nat := 298
abbrev ty_uint32 : Nat := 306
abbrev ty_arr8_uint32 : Nat := 307
abbrev ty_impl_tree : Nat := 329
def laws_FnCollected (C : Comb) (x0 : Sl) (x1 : Sl) : C.St :=
 C.join (TL []) (embL []) (fun s3 => C.any fun _ =>
 C.call n_spec_P6Rooted [(.slice x0.a x0.n x0.c)] [.agg, .slice] fun r40 =>
 C.new ty_impl_Store (.agg (#[(.slice none 0 0)])) fun b5 =>
 C.st 1 (Addr.mk b5 0 none) (.agg r40.1) <|
 C.ld .agg 1 (Addr.mk b5 0 none) fun v44 =>
 C.call n_spec_KeysOfStore [(.agg v44)] [.slice, (.int .i64)] fun r45 =>
 C.sem (Instr.buildSlice ty_sl_impl_Lease 0 #[]) .slice fun y48 =>
 C.join (TL [.slice]) (embL [.slice]) (fun s15 => C.any fun _ =>
 C.call n_spec_P6Pick [(.slice x1.a x1.n x1.c), (.int .i64 10)] [(.int .i64)] fun r64 =>
 C.ld .agg 1 (Addr.mk b5 0 none) fun v66 =>
 C.call n_impl_Collect [(.agg v66), (.slice r40.2.a r40.2.n r40.2.c), (.slice s15.a s15.n s15.c), (.int .i64 r64)] [.agg, (.int .i64)] fun r70 =>
 C.new ty_impl_Store (.agg (#[(.slice none 0 0)])) fun b11 =>
 C.st 1 (Addr.mk b11 0 none) (.agg r70.1) <|
 C.ld .agg 1 (Addr.mk b5 0 none) fun v74 =>
 C.call n_spec_Collect [(.agg v74), (.slice r40.2.a r40.2.n r40.2.c), (.slice s15.a s15.n s15.c), (.int .i64 r64)] [.agg, (.int .i64)] fun r78 =>
 C.new ty_impl_Store (.agg (#[(.slice none 0 0)])) fun b13 =>
 C.st 1 (Addr.mk b13 0 none) (.agg r78.1) <|
 C.ld .agg 1 (Addr.mk b5 0 none) fun v82 =>
 C.call n_impl_DeadIn [(.agg v82), (.slice r40.2.a r40.2.n r40.2.c), (.slice s15.a s15.n s15.c), (.int .i64 r64)] [.slice, (.int .i64)] fun r86 =>
 C.ld .agg 1 (Addr.mk b5 0 none) fun v90 =>
 C.call n_spec_DeadIn [(.agg v90), (.slice r40.2.a r40.2.n r40.2.c), (.slice s15.a s15.n s15.c), (.int .i64 r64)] [.slice, (.int .i64)] fun r94 =>
 C.ld .agg 1 (Addr.mk b13 0 none) fun v98 =>
 C.call n_impl_Collect [(.agg v98), (.slice r40.2.a r40.2.n r40.2.c), (.slice s15.a s15.n s15.c), (.int .i64 r64)] [.agg, (.int .i64)] fun r102 =>
 C.new ty_impl_Store (.agg (#[(.slice none 0 0)])) fun b19 =>
 C.st 1 (Addr.mk b19 0 none) (.agg r102.1) <|
 C.join (TL []) (embL []) (fun s39 => C.any fun _ =>
 C.sem (Instr.buildSlice ty_sl_impl_Key 0 #[]) .slice fun y155 =>
 C.sem (Builtin.append_ #[ty_sl_impl_Key, ty_sl_impl_Key] ty_sl_impl_Key #[(.slice y155.a y155.n y155.c), (.slice r40.2.a r40.2.n r40.2.c)]) .slice fun y157 =>
 C.join (TL [.slice]) (embL [.slice]) (fun s47 => C.any fun _ =>
 C.ld .agg 1 (Addr.mk b5 0 none) fun v173 =>
 C.call n_impl_ReachableFrom [(.agg v173), (.slice s47.a s47.n s47.c)] [.slice, (.int .i64)] fun r175 =>
 C.ld .agg 1 (Addr.mk b13 0 none) fun v179 =>
 C.call n_impl_KeysOfStore [(.agg v179)] [.slice, (.int .i64)] fun r180 =>
 C.ld .agg 1 (Addr.mk b5 0 none) fun v184 =>
 C.call n_impl_MissingFrom [(.agg v184), (.slice r40.2.a r40.2.n r40.2.c)] [.slice, (.int .i64)] fun r186 =>
 C.ld .agg 1 (Addr.mk b13 0 none) fun v190 =>
 C.call n_impl_MissingFrom [(.agg v190), (.slice r40.2.a r40.2.n r40.2.c)] [.slice, (.int .i64)] fun r192 =>
 C.ld .agg 1 (Addr.mk b5 0 none) fun v196 =>
 C.call n_spec_MissingFrom [(.agg v196), (.slice r40.2.a r40.2.n r40.2.c)] [.slice, (.int .i64)] fun r198 =>
 cond (r175.2 == 0) (
 cond (r180.2 == 0) (
 C.call n_spec_EqualKeys [(.slice r175.1.a r175.1.n r175.1.c), (.slice r180.1.a r180.1.n r180.1.c)] [.bool] fun r210 =>
 cond r210 (
 cond (r186.2 == r198.2) (
 cond (r192.2 == 0) (
 C.call n_spec_EqualKeys [(.slice r186.1.a r186.1.n r186.1.c), (.slice r198.1.a r198.1.n r198.1.c)] [.bool] fun r224 =>
 cond r224 (
 C.call n_spec_EqualKeys [(.slice r192.1.a r192.1.n r192.1.c), (.slice r198.1.a r198.1.n r198.1.c)] [.bool] fun r229 =>
 C.ret (.bool r229)
 ) (
 C.ret (.bool false)
 )
 ) (
 C.ret (.bool false)
 )
 ) (
 C.ret (.bool false)
 )
 ) (
 C.ret (.bool false)
 )
 ) (
 C.ret (.bool false)
 )
 ) (
 C.ret (.bool false)
 )
 ) fun jt =>
 C.join (TL [.bool]) (embL [.bool]) (fun s42 => C.any fun _ =>
 cond s42 (
 C.ix s15.a s15.n 33 0 fun p167 =>
 C.ld .agg 32 (p167.add 0) fun v169 =>
 C.sem (Instr.buildSlice ty_sl_impl_Key 1 #[(0, (.agg v169))]) .slice fun y170 =>
 C.sem (Builtin.append_ #[ty_sl_impl_Key, ty_sl_impl_Key] ty_sl_impl_Key #[(.slice y157.a y157.n y157.c), (.slice y170.a y170.n y170.c)]) .slice fun y171 =>
 jt [(.slice y171.a y171.n y171.c)]
 ) (
 jt [(.slice y157.a y157.n y157.c)]
 )
 ) fun jt1 =>
 cond (decide ((s15.n : Int) > 0)) (
 jt1 [(.bool (decide (r64 ≤ 5)))]
 ) (
 jt1 [(.bool false)]
 )
 ) fun jt =>
 cond (r45.2 != 0) (
 C.ret (.bool false)
 ) (
 cond (r70.2 != r78.2) (
 C.ret (.bool false)
 ) (
 cond (r70.2 != 0) (
 C.ret (.bool false)
 ) (
 C.ld .agg 1 (Addr.mk b11 0 none) fun v117 =>
 C.ld .agg 1 (Addr.mk b13 0 none) fun v118 =>
 C.call n_spec_SameStore [(.agg v117), (.agg v118)] [.bool] fun r119 =>
 cond (!r119) (
 C.ret (.bool false)
 ) (
 cond (r86.2 != r94.2) (
 C.ret (.bool false)
 ) (
 C.call n_spec_EqualKeys [(.slice r86.1.a r86.1.n r86.1.c), (.slice r94.1.a r94.1.n r94.1.c)] [.bool] fun r130 =>
 cond (!r130) (
 C.ret (.bool false)
 ) (
 cond (r102.2 != 0) (
 C.ret (.bool false)
 ) (
 C.ld .agg 1 (Addr.mk b19 0 none) fun v138 =>
 C.ld .agg 1 (Addr.mk b13 0 none) fun v139 =>
 C.call n_spec_SameStore [(.agg v138), (.agg v139)] [.bool] fun r140 =>
 cond (!r140) (
 C.ret (.bool false)
 ) (
 C.ld .slice 1 ((Addr.mk b13 0 none).add 0) fun v147 =>
 C.ld .slice 1 ((Addr.mk b5 0 none).add 0) fun v151 =>
 cond ((IntKind.wrap .i64 ((r94.1.n : Int) + (v147.n : Int))) != (v151.n : Int)) (
 C.ret (.bool false)
 ) (
 jt []
 )
 )
 )
 )
 )
 )
 )
 )
 )
 ) fun jt =>
 cond (decide ((r45.1.n : Int) > 0)) (
 C.call n_spec_P6Pick [(.slice x1.a x1.n x1.c), (.int .i64 (r45.1.n : Int))] [(.int .i64)] fun r57 =>
 C.ix r45.1.a r45.1.n 32 r57 fun p58 =>
 C.ld .agg 32 p58 fun v59 =>
 C.pur (Instr.build ty_impl_Lease #[(0, (.agg v59)), (1, (.int .i64 5))]) .agg fun y60 =>
 C.sem (Instr.buildSlice ty_sl_impl_Lease 1 #[(0, (.agg y60))]) .slice fun y61 =>
 C.sem (Builtin.append_ #[ty_sl_impl_Lease, ty_sl_impl_Lease] ty_sl_impl_Lease #[(.slice y48.a y48.n y48.c), (.slice y61.a y61.n y61.c)]) .slice fun y62 =>
 jt [(.slice y62.a y62.n y62.c)]
 ) (
 jt [(.slice y48.a y48.n y48.c)]
 )
 ) fun jt =>
 C.call n_laws_f6big [(.slice x0.a x0.n x0.c)] [.bool] fun r33 =>
 cond r33 (
 C.ret (.bool true)
 ) (
 C.call n_laws_f6big [(.slice x1.a x1.n x1.c)] [.bool] fun r36 =>
 cond r36 (
 C.ret (.bool true)
 ) (
 jt []
 )
 )
theorem laws_FnCollected_eq (C : Comb) (x0 : Sl) (x1 : Sl) : fT C Tryz.prog ⟨[], [(111, []), (153, [(9, .slice)]), (462, []), (52, [(164, .bool)]), (492, [(21, .slice)])], [], []⟩ n_laws_FnCollected [(.slice x0.a x0.n x0.c), (.slice x1.a x1.n x1.c)] = laws_FnCollected C x0 x1 := by kernel_rfl
theorem laws_FnCollected_calls {R : Value → World → Prop} {w : World} (x0 : Sl) (x1 : Sl) (h : (laws_FnCollected (real Tryz.prog R) x0 x1 : World → Prop) w) :
    Calls Tryz.prog n_laws_FnCollected [(.slice x0.a x0.n x0.c), (.slice x1.a x1.n x1.c)].toArray w fun e w' => ∃ v, e = .returned v ∧ R v w' := fT_sound mixed ⟨[], [(111, []), (153, [(9, .slice)]), (462, []), (52, [(164, .bool)]), (492, [(21, .slice)])], [], []⟩ (by rw [laws_FnCollected_eq]; exact h)

def laws_f6big (C : Comb) (x0 : Sl) : C.St :=
 C.ret (.bool (decide ((x0.n : Int) > 4096)))
theorem laws_f6big_eq (C : Comb) (x0 : Sl) : fT C Tryz.prog ⟨[], [], [], []⟩ n_laws_f6big [(.slice x0.a x0.n x0.c)] = laws_f6big C x0 := by kernel_rfl
theorem laws_f6big_calls {R : Value → World → Prop} {w : World} (x0 : Sl) (h : (laws_f6big (real Tryz.prog R) x0 : World → Prop) w) :
    Calls Tryz.prog n_laws_f6big [(.slice x0.a x0.n x0.c)].toArray w fun e w' => ∃ v, e = .returned v ∧ R v w' := fT_sound mixed ⟨[], [], [], []⟩ (by rw [laws_f6big_eq]; exact h)

def spec_P6Pick (C : Comb) (x0 : Sl) (x1 : Int) : C.St :=
 C.call n_spec_l00From [(.slice x0.a x0.n x0.c)] [.ptr] fun r6 =>
 C.call n_ptr_spec_l00Src_pick [(.pointer (some r6)), (.int .i64 x1)] [(.int .i64)] fun r8 =>
 C.ret (.int .i64 r8)
theorem spec_P6Pick_eq (C : Comb) (x0 : Sl) (x1 : Int) : fT C Tryz.prog ⟨[], [], [], []⟩ n_spec_P6Pick [(.slice x0.a x0.n x0.c), (.int .i64 x1)] = spec_P6Pick C x0 x1 := by kernel_rfl
theorem spec_P6Pick_calls {R : Value → World → Prop} {w : World} (x0 : Sl) (x1 : Int) (h : (spec_P6Pick (real Tryz.prog R) x0 x1 : World → Prop) w) :
    Calls Tryz.prog n_spec_P6Pick [(.slice x0.a x0.n x0.c), (.int .i64 x1)].toArray w fun e w' => ∃ v, e = .returned v ∧ R v w' := fT_sound mixed ⟨[], [], [], []⟩ (by rw [spec_P6Pick_eq]; exact h)

def spec_SameStore (C : Comb) (x0 : Array Value) (x1 : Array Value) : C.St :=
 C.new ty_impl_Store (.agg x0) fun b2 =>
 C.new ty_impl_Store (.agg x1) fun b3 =>
 C.ld .slice 1 ((Addr.mk b2 0 none).add 0) fun v7 =>
 C.ld .slice 1 ((Addr.mk b3 0 none).add 0) fun v10 =>
 cond ((v7.n : Int) != (v10.n : Int)) (
 C.ret (.bool false)
 ) (
 C.loop (TL [(.int .i64)]) (embL [(.int .i64)]) [(.int .i64 0)] fun s5 ct5 => C.any fun _ =>
 C.ld .slice 1 ((Addr.mk b2 0 none).add 0) fun v15 =>
 cond (decide (s5 < (v15.n : Int))) (
 C.draw <|
 C.ld .slice 1 ((Addr.mk b2 0 none).add 0) fun v21 =>
 C.ix v21.a v21.n 2 s5 fun p23 =>
 C.ld .slice 1 ((Addr.mk b3 0 none).add 0) fun v25 =>
 C.ix v25.a v25.n 2 s5 fun p27 =>
 C.call n_spec_l05SameBlob [(.pointer (some p23)), (.pointer (some p27))] [.bool] fun r28 =>
 C.chk [⟨5, 1, ((Addr.mk b3 0 none).add 0), .slice, v25⟩, ⟨1, 1, ((Addr.mk b2 0 none).add 0), .slice, v21⟩] <|
 cond (!r28) (
 C.ret (.bool false)
 ) (
 ct5 [(.int .i64 (IntKind.wrap .i64 (s5 + 1)))]
 )
 ) (
 C.ret (.bool true)
 )
 )
theorem spec_SameStore_eq (C : Comb) (x0 : Array Value) (x1 : Array Value) : fT C Tryz.prog ⟨[(4, [(5, (.int .i64))])], [], [6], []⟩ n_spec_SameStore [(.agg x0), (.agg x1)] = spec_SameStore C x0 x1 := by kernel_rfl
theorem spec_SameStore_calls {R : Value → World → Prop} {w : World} (x0 : Array Value) (x1 : Array Value) (h : (spec_SameStore (real Tryz.prog R) x0 x1 : World → Prop) w) :
    Calls Tryz.prog n_spec_SameStore [(.agg x0), (.agg x1)].toArray w fun e w' => ∃ v, e = .returned v ∧ R v w' := fT_sound mixed ⟨[(4, [(5, (.int .i64))])], [], [6], []⟩ (by rw [spec_SameStore_eq]; exact h)

def spec_P6Rooted (C : Comb) (x0 : Sl) : C.St :=
 C.new ty_impl_Store (.agg (#[(.slice none 0 0)])) fun b2 =>
 C.call n_spec_l00From [(.slice x0.a x0.n x0.c)] [.ptr] fun r8 =>
 C.call n_spec_l05Drawn [(.pointer (some r8))] [.agg, .slice] fun r11 =>
 C.new ty_impl_Store (.agg (#[(.slice none 0 0)])) fun b5 =>
 C.st 1 (Addr.mk b5 0 none) (.agg r11.1) <|
 C.call n_ptr_spec_l00Src_one [(.pointer (some r8)), (.int .i64 4)] [.bool] fun r15 =>
 cond r15 (
 C.call n_spec_l01Any [(.pointer (some r8))] [.agg] fun r18 =>
 C.sem (Instr.buildSlice ty_sl_impl_Key 1 #[(0, (.agg r18))]) .slice fun y19 =>
 C.sem (Builtin.append_ #[ty_sl_impl_Key, ty_sl_impl_Key] ty_sl_impl_Key #[(.slice r11.2.a r11.2.n r11.2.c), (.slice y19.a y19.n y19.c)]) .slice fun y20 =>
 C.ld .agg 1 (Addr.mk b5 0 none) fun v21 =>
 C.st 1 (Addr.mk b2 0 none) (.agg v21) <|
 C.ld .agg 1 (Addr.mk b2 0 none) fun z10 =>
 C.ret (.tuple #[(.agg z10), (.slice y20.a y20.n y20.c)])
 ) (
 C.ld .agg 1 (Addr.mk b5 0 none) fun v21 =>
 C.st 1 (Addr.mk b2 0 none) (.agg v21) <|
 C.ld .agg 1 (Addr.mk b2 0 none) fun z12 =>
 C.ret (.tuple #[(.agg z12), (.slice r11.2.a r11.2.n r11.2.c)])
 )
theorem spec_P6Rooted_eq (C : Comb) (x0 : Sl) : fT C Tryz.prog ⟨[], [], [], []⟩ n_spec_P6Rooted [(.slice x0.a x0.n x0.c)] = spec_P6Rooted C x0 := by kernel_rfl
theorem spec_P6Rooted_calls {R : Value → World → Prop} {w : World} (x0 : Sl) (h : (spec_P6Rooted (real Tryz.prog R) x0 : World → Prop) w) :
    Calls Tryz.prog n_spec_P6Rooted [(.slice x0.a x0.n x0.c)].toArray w fun e w' => ∃ v, e = .returned v ∧ R v w' := fT_sound mixed ⟨[], [], [], []⟩ (by rw [spec_P6Rooted_eq]; exact h)

def spec_KeysOfStore (C : Comb) (x0 : Array Value) : C.St :=
 C.new ty_impl_Store (.agg x0) fun b1 =>
 C.call n_spec_l05Open [(.pointer (some (Addr.mk b1 0 none)))] [.optr, .bool] fun r7 =>
 cond (!r7.2) (
 C.sem (Instr.buildSlice ty_sl_impl_Key 0 #[]) .slice fun y12 =>
 C.ret (.tuple #[(.slice y12.a y12.n y12.c), (.int .i64 1)])
 ) (
 dpT C r7.1 fun a4 =>
 C.ld .slice 1 (a4.add 1) fun v16 =>
 C.ret (.tuple #[(.slice v16.a v16.n v16.c), (.int .i64 0)])
 )
theorem spec_KeysOfStore_eq (C : Comb) (x0 : Array Value) : fT C Tryz.prog ⟨[], [], [], []⟩ n_spec_KeysOfStore [(.agg x0)] = spec_KeysOfStore C x0 := by kernel_rfl
theorem spec_KeysOfStore_calls {R : Value → World → Prop} {w : World} (x0 : Array Value) (h : (spec_KeysOfStore (real Tryz.prog R) x0 : World → Prop) w) :
    Calls Tryz.prog n_spec_KeysOfStore [(.agg x0)].toArray w fun e w' => ∃ v, e = .returned v ∧ R v w' := fT_sound mixed ⟨[], [], [], []⟩ (by rw [spec_KeysOfStore_eq]; exact h)

def impl_Collect (C : Comb) (x0 : Array Value) (x1 : Sl) (x2 : Sl) (x3 : Int) : C.St :=
 C.new ty_impl_Store (.agg x0) fun b4 =>
 C.new ty_impl_Store (.agg (#[(.slice none 0 0)])) fun b8 =>
 C.ld .agg 1 (Addr.mk b4 0 none) fun v14 =>
 C.call n_impl_alive [(.agg v14), (.slice x1.a x1.n x1.c), (.slice x2.a x2.n x2.c), (.int .i64 x3)] [.optr, .val, (.int .i64)] fun r18 =>
 C.new ty_map_impl_Key_bool (.map none) fun b11 =>
 C.st 1 (Addr.mk b11 0 none) r18.2.1 <|
 cond (r18.2.2 != 0) (
 C.pur (Instr.build ty_impl_Store #[]) .agg fun y24 =>
 C.st 1 (Addr.mk b8 0 none) (.agg y24) <|
 C.ld .agg 1 (Addr.mk b8 0 none) fun z7 =>
 C.ret (.tuple #[(.agg z7), (.int .i64 r18.2.2)])
 ) (
 C.call n_ptr_impl_shop_kept [(.pointer r18.1), (.func (.func n_impl_Collect_1) #[] #[(.pointer (some (Addr.mk b11 0 none)))])] [.agg] fun r28 =>
 C.st 1 (Addr.mk b8 0 none) (.agg r28) <|
 C.ld .agg 1 (Addr.mk b8 0 none) fun z9 =>
 C.ret (.tuple #[(.agg z9), (.int .i64 0)])
 )
theorem impl_Collect_eq (C : Comb) (x0 : Array Value) (x1 : Sl) (x2 : Sl) (x3 : Int) : fT C Tryz.prog ⟨[], [], [], []⟩ n_impl_Collect [(.agg x0), (.slice x1.a x1.n x1.c), (.slice x2.a x2.n x2.c), (.int .i64 x3)] = impl_Collect C x0 x1 x2 x3 := by kernel_rfl
theorem impl_Collect_calls {R : Value → World → Prop} {w : World} (x0 : Array Value) (x1 : Sl) (x2 : Sl) (x3 : Int) (h : (impl_Collect (real Tryz.prog R) x0 x1 x2 x3 : World → Prop) w) :
    Calls Tryz.prog n_impl_Collect [(.agg x0), (.slice x1.a x1.n x1.c), (.slice x2.a x2.n x2.c), (.int .i64 x3)].toArray w fun e w' => ∃ v, e = .returned v ∧ R v w' := fT_sound mixed ⟨[], [], [], []⟩ (by rw [impl_Collect_eq]; exact h)

def spec_Collect (C : Comb) (x0 : Array Value) (x1 : Sl) (x2 : Sl) (x3 : Int) : C.St :=
 C.new ty_impl_Store (.agg x0) fun b4 =>
 C.new ty_impl_Store (.agg (#[(.slice none 0 0)])) fun b8 =>
 C.call n_spec_l05Needed [(.pointer (some (Addr.mk b4 0 none))), (.slice x1.a x1.n x1.c), (.slice x2.a x2.n x2.c), (.int .i64 x3)] [.optr, .slice, (.int .i64)] fun r17 =>
 cond (r17.2.2 != 0) (
 C.pur (Instr.build ty_impl_Store #[]) .agg fun y23 =>
 C.st 1 (Addr.mk b8 0 none) (.agg y23) <|
 C.ld .agg 1 (Addr.mk b8 0 none) fun z5 =>
 C.ret (.tuple #[(.agg z5), (.int .i64 r17.2.2)])
 ) (
 C.call n_ptr_spec_l05Store_keep [(.pointer r17.1), (.slice r17.2.1.a r17.2.1.n r17.2.1.c)] [.ptr] fun r27 =>
 C.call n_ptr_spec_l05Store_store [(.pointer (some r27))] [.agg] fun r28 =>
 C.st 1 (Addr.mk b8 0 none) (.agg r28) <|
 C.ld .agg 1 (Addr.mk b8 0 none) fun z8 =>
 C.ret (.tuple #[(.agg z8), (.int .i64 0)])
 )
theorem spec_Collect_eq (C : Comb) (x0 : Array Value) (x1 : Sl) (x2 : Sl) (x3 : Int) : fT C Tryz.prog ⟨[], [], [], []⟩ n_spec_Collect [(.agg x0), (.slice x1.a x1.n x1.c), (.slice x2.a x2.n x2.c), (.int .i64 x3)] = spec_Collect C x0 x1 x2 x3 := by kernel_rfl
theorem spec_Collect_calls {R : Value → World → Prop} {w : World} (x0 : Array Value) (x1 : Sl) (x2 : Sl) (x3 : Int) (h : (spec_Collect (real Tryz.prog R) x0 x1 x2 x3 : World → Prop) w) :
    Calls Tryz.prog n_spec_Collect [(.agg x0), (.slice x1.a x1.n x1.c), (.slice x2.a x2.n x2.c), (.int .i64 x3)].toArray w fun e w' => ∃ v, e = .returned v ∧ R v w' := fT_sound mixed ⟨[], [], [], []⟩ (by rw [spec_Collect_eq]; exact h)

def impl_DeadIn (C : Comb) (x0 : Array Value) (x1 : Sl) (x2 : Sl) (x3 : Int) : C.St :=
 C.new ty_impl_Store (.agg x0) fun b4 =>
 C.ld .agg 1 (Addr.mk b4 0 none) fun v14 =>
 C.call n_impl_alive [(.agg v14), (.slice x1.a x1.n x1.c), (.slice x2.a x2.n x2.c), (.int .i64 x3)] [.optr, .val, (.int .i64)] fun r18 =>
 C.new ty_map_impl_Key_bool (.map none) fun b11 =>
 C.st 1 (Addr.mk b11 0 none) r18.2.1 <|
 cond (r18.2.2 != 0) (
 C.ret (.tuple #[(.slice none 0 0), (.int .i64 r18.2.2)])
 ) (
 dpT C r18.1 fun a5 =>
 C.ld .slice 1 (a5.add 0) fun v28 =>
 C.call n_slices_DeleteFunc_sl_impl_Key_impl_Key [(.slice v28.a v28.n v28.c), (.func (.func n_impl_DeadIn_1) #[] #[(.pointer (some (Addr.mk b11 0 none)))])] [.slice] fun r30 =>
 C.ret (.tuple #[(.slice r30.a r30.n r30.c), (.int .i64 0)])
 )
theorem impl_DeadIn_eq (C : Comb) (x0 : Array Value) (x1 : Sl) (x2 : Sl) (x3 : Int) : fT C Tryz.prog ⟨[], [], [], []⟩ n_impl_DeadIn [(.agg x0), (.slice x1.a x1.n x1.c), (.slice x2.a x2.n x2.c), (.int .i64 x3)] = impl_DeadIn C x0 x1 x2 x3 := by kernel_rfl
theorem impl_DeadIn_calls {R : Value → World → Prop} {w : World} (x0 : Array Value) (x1 : Sl) (x2 : Sl) (x3 : Int) (h : (impl_DeadIn (real Tryz.prog R) x0 x1 x2 x3 : World → Prop) w) :
    Calls Tryz.prog n_impl_DeadIn [(.agg x0), (.slice x1.a x1.n x1.c), (.slice x2.a x2.n x2.c), (.int .i64 x3)].toArray w fun e w' => ∃ v, e = .returned v ∧ R v w' := fT_sound mixed ⟨[], [], [], []⟩ (by rw [impl_DeadIn_eq]; exact h)

def spec_DeadIn (C : Comb) (x0 : Array Value) (x1 : Sl) (x2 : Sl) (x3 : Int) : C.St :=
 C.new ty_impl_Store (.agg x0) fun b4 =>
 C.call n_spec_l05Needed [(.pointer (some (Addr.mk b4 0 none))), (.slice x1.a x1.n x1.c), (.slice x2.a x2.n x2.c), (.int .i64 x3)] [.optr, .slice, (.int .i64)] fun r19 =>
 cond (r19.2.2 != 0) (
 C.sem (Instr.buildSlice ty_sl_impl_Key 0 #[]) .slice fun y25 =>
 C.ret (.tuple #[(.slice y25.a y25.n y25.c), (.int .i64 r19.2.2)])
 ) (
 C.sem (Instr.buildSlice ty_sl_impl_Key 0 #[]) .slice fun y27 =>
 C.loop (TL [.slice, (.int .i64)]) (embL [.slice, (.int .i64)]) [(.slice y27.a y27.n y27.c), (.int .i64 0)] fun s5 ct5 => C.any fun _ =>
 cond (decide (s5.2 < (r19.2.1.n : Int))) (
 C.ix r19.2.1.a r19.2.1.n 1 s5.2 fun p36 =>
 C.ld .bool 1 p36 fun v37 =>
 cond (!v37) (
 dpT C r19.1 fun a8 =>
 C.ld .slice 1 (a8.add 1) fun v43 =>
 C.ix v43.a v43.n 32 s5.2 fun p45 =>
 C.ld .agg 32 p45 fun v46 =>
 C.sem (Instr.buildSlice ty_sl_impl_Key 1 #[(0, (.agg v46))]) .slice fun y47 =>
 C.sem (Builtin.append_ #[ty_sl_impl_Key, ty_sl_impl_Key] ty_sl_impl_Key #[(.slice s5.1.a s5.1.n s5.1.c), (.slice y47.a y47.n y47.c)]) .slice fun y48 =>
 ct5 [(.slice y48.a y48.n y48.c), (.int .i64 (IntKind.wrap .i64 (s5.2 + 1)))]
 ) (
 ct5 [(.slice s5.1.a s5.1.n s5.1.c), (.int .i64 (IntKind.wrap .i64 (s5.2 + 1)))]
 )
 ) (
 C.ret (.tuple #[(.slice s5.1.a s5.1.n s5.1.c), (.int .i64 0)])
 )
 )
theorem spec_DeadIn_eq (C : Comb) (x0 : Array Value) (x1 : Sl) (x2 : Sl) (x3 : Int) : fT C Tryz.prog ⟨[(6, [(13, .slice), (14, (.int .i64))])], [], [], []⟩ n_spec_DeadIn [(.agg x0), (.slice x1.a x1.n x1.c), (.slice x2.a x2.n x2.c), (.int .i64 x3)] = spec_DeadIn C x0 x1 x2 x3 := by kernel_rfl
theorem spec_DeadIn_calls {R : Value → World → Prop} {w : World} (x0 : Array Value) (x1 : Sl) (x2 : Sl) (x3 : Int) (h : (spec_DeadIn (real Tryz.prog R) x0 x1 x2 x3 : World → Prop) w) :
    Calls Tryz.prog n_spec_DeadIn [(.agg x0), (.slice x1.a x1.n x1.c), (.slice x2.a x2.n x2.c), (.int .i64 x3)].toArray w fun e w' => ∃ v, e = .returned v ∧ R v w' := fT_sound mixed ⟨[(6, [(13, .slice), (14, (.int .i64))])], [], [], []⟩ (by rw [spec_DeadIn_eq]; exact h)

def spec_EqualKeys (C : Comb) (x0 : Sl) (x1 : Sl) : C.St :=
 cond ((x0.n : Int) != (x1.n : Int)) (
 C.ret (.bool false)
 ) (
 C.loop (TL [(.int .i64)]) (embL [(.int .i64)]) [(.int .i64 0)] fun s1 ct1 => C.any fun _ =>
 cond (decide (s1 < (x0.n : Int))) (
 C.draw <|
 C.ix x0.a x0.n 32 s1 fun p19 =>
 C.ld .agg 32 p19 fun v20 =>
 C.ix x1.a x1.n 32 s1 fun p23 =>
 C.ld .agg 32 p23 fun v24 =>
 C.pur (eqB .neq ty_impl_Key (.tmp 20) (.tmp 24) (.agg v20) (.agg v24)) .bool fun y25 =>
 cond y25 (
 C.ret (.bool false)
 ) (
 ct1 [(.int .i64 (IntKind.wrap .i64 (s1 + 1)))]
 )
 ) (
 C.ret (.bool true)
 )
 )
theorem spec_EqualKeys_eq (C : Comb) (x0 : Sl) (x1 : Sl) : fT C Tryz.prog ⟨[(4, [(5, (.int .i64))])], [], [], []⟩ n_spec_EqualKeys [(.slice x0.a x0.n x0.c), (.slice x1.a x1.n x1.c)] = spec_EqualKeys C x0 x1 := by kernel_rfl
theorem spec_EqualKeys_calls {R : Value → World → Prop} {w : World} (x0 : Sl) (x1 : Sl) (h : (spec_EqualKeys (real Tryz.prog R) x0 x1 : World → Prop) w) :
    Calls Tryz.prog n_spec_EqualKeys [(.slice x0.a x0.n x0.c), (.slice x1.a x1.n x1.c)].toArray w fun e w' => ∃ v, e = .returned v ∧ R v w' := fT_sound mixed ⟨[(4, [(5, (.int .i64))])], [], [], []⟩ (by rw [spec_EqualKeys_eq]; exact h)

def impl_ReachableFrom (C : Comb) (x0 : Array Value) (x1 : Sl) : C.St :=
 C.new ty_impl_Store (.agg x0) fun b2 =>
 C.ld .agg 1 (Addr.mk b2 0 none) fun v9 =>
 C.sem (Instr.buildSlice ty_sl_sl_impl_Key 1 #[(0, (.slice x1.a x1.n x1.c))]) .slice fun y11 =>
 C.call n_impl_reachCode [(.agg v9), (.slice y11.a y11.n y11.c)] [.optr, (.int .i64)] fun r12 =>
 cond (r12.2 != 0) (
 C.ret (.tuple #[(.slice none 0 0), (.int .i64 r12.2)])
 ) (
 C.call n_ptr_impl_shop_reached [(.pointer r12.1), (.slice x1.a x1.n x1.c), (.bool true)] [.slice] fun r20 =>
 C.ret (.tuple #[(.slice r20.a r20.n r20.c), (.int .i64 0)])
 )
theorem impl_ReachableFrom_eq (C : Comb) (x0 : Array Value) (x1 : Sl) : fT C Tryz.prog ⟨[], [], [], []⟩ n_impl_ReachableFrom [(.agg x0), (.slice x1.a x1.n x1.c)] = impl_ReachableFrom C x0 x1 := by kernel_rfl
theorem impl_ReachableFrom_calls {R : Value → World → Prop} {w : World} (x0 : Array Value) (x1 : Sl) (h : (impl_ReachableFrom (real Tryz.prog R) x0 x1 : World → Prop) w) :
    Calls Tryz.prog n_impl_ReachableFrom [(.agg x0), (.slice x1.a x1.n x1.c)].toArray w fun e w' => ∃ v, e = .returned v ∧ R v w' := fT_sound mixed ⟨[], [], [], []⟩ (by rw [impl_ReachableFrom_eq]; exact h)

def impl_KeysOfStore (C : Comb) (x0 : Array Value) : C.St :=
 C.new ty_impl_Store (.agg x0) fun b1 =>
 C.ld .agg 1 (Addr.mk b1 0 none) fun v7 =>
 C.call n_impl_newShop [(.agg v7)] [.optr, .bool] fun r8 =>
 cond (!r8.2) (
 C.ret (.tuple #[(.slice none 0 0), (.int .i64 1)])
 ) (
 dpT C r8.1 fun a4 =>
 C.ld .slice 1 (a4.add 0) fun v16 =>
 C.ret (.tuple #[(.slice v16.a v16.n v16.c), (.int .i64 0)])
 )
theorem impl_KeysOfStore_eq (C : Comb) (x0 : Array Value) : fT C Tryz.prog ⟨[], [], [], []⟩ n_impl_KeysOfStore [(.agg x0)] = impl_KeysOfStore C x0 := by kernel_rfl
theorem impl_KeysOfStore_calls {R : Value → World → Prop} {w : World} (x0 : Array Value) (h : (impl_KeysOfStore (real Tryz.prog R) x0 : World → Prop) w) :
    Calls Tryz.prog n_impl_KeysOfStore [(.agg x0)].toArray w fun e w' => ∃ v, e = .returned v ∧ R v w' := fT_sound mixed ⟨[], [], [], []⟩ (by rw [impl_KeysOfStore_eq]; exact h)

def impl_MissingFrom (C : Comb) (x0 : Array Value) (x1 : Sl) : C.St :=
 C.new ty_impl_Store (.agg x0) fun b2 =>
 C.ld .agg 1 (Addr.mk b2 0 none) fun v9 =>
 C.sem (Instr.buildSlice ty_sl_sl_impl_Key 1 #[(0, (.slice x1.a x1.n x1.c))]) .slice fun y11 =>
 C.call n_impl_reachCode [(.agg v9), (.slice y11.a y11.n y11.c)] [.optr, (.int .i64)] fun r12 =>
 cond (r12.2 != 0) (
 C.ret (.tuple #[(.slice none 0 0), (.int .i64 r12.2)])
 ) (
 C.call n_ptr_impl_shop_reached [(.pointer r12.1), (.slice x1.a x1.n x1.c), (.bool false)] [.slice] fun r20 =>
 C.ret (.tuple #[(.slice r20.a r20.n r20.c), (.int .i64 0)])
 )
theorem impl_MissingFrom_eq (C : Comb) (x0 : Array Value) (x1 : Sl) : fT C Tryz.prog ⟨[], [], [], []⟩ n_impl_MissingFrom [(.agg x0), (.slice x1.a x1.n x1.c)] = impl_MissingFrom C x0 x1 := by kernel_rfl
theorem impl_MissingFrom_calls {R : Value → World → Prop} {w : World} (x0 : Array Value) (x1 : Sl) (h : (impl_MissingFrom (real Tryz.prog R) x0 x1 : World → Prop) w) :
    Calls Tryz.prog n_impl_MissingFrom [(.agg x0), (.slice x1.a x1.n x1.c)].toArray w fun e w' => ∃ v, e = .returned v ∧ R v w' := fT_sound mixed ⟨[], [], [], []⟩ (by rw [impl_MissingFrom_eq]; exact h)

def spec_MissingFrom (C : Comb) (x0 : Array Value) (x1 : Sl) : C.St :=
 C.new ty_impl_Store (.agg x0) fun b2 =>
 C.call n_spec_l05Asked [(.pointer (some (Addr.mk b2 0 none))), (.slice x1.a x1.n x1.c)] [.optr, (.int .i64)] fun r12 =>
 cond (r12.2 != 0) (
 C.sem (Instr.buildSlice ty_sl_impl_Key 0 #[]) .slice fun y17 =>
 C.ret (.tuple #[(.slice y17.a y17.n y17.c), (.int .i64 r12.2)])
 ) (
 C.call n_ptr_spec_l05Store_reach [(.pointer r12.1), (.slice x1.a x1.n x1.c)] [.slice, .slice] fun r22 =>
 C.call n_spec_l05Ascending [(.slice r22.2.a r22.2.n r22.2.c)] [.slice] fun r26 =>
 C.ret (.tuple #[(.slice r26.a r26.n r26.c), (.int .i64 0)])
 )
theorem spec_MissingFrom_eq (C : Comb) (x0 : Array Value) (x1 : Sl) : fT C Tryz.prog ⟨[], [], [], []⟩ n_spec_MissingFrom [(.agg x0), (.slice x1.a x1.n x1.c)] = spec_MissingFrom C x0 x1 := by kernel_rfl
theorem spec_MissingFrom_calls {R : Value → World → Prop} {w : World} (x0 : Array Value) (x1 : Sl) (h : (spec_MissingFrom (real Tryz.prog R) x0 x1 : World → Prop) w) :
    Calls Tryz.prog n_spec_MissingFrom [(.agg x0), (.slice x1.a x1.n x1.c)].toArray w fun e w' => ∃ v, e = .returned v ∧ R v w' := fT_sound mixed ⟨[], [], [], []⟩ (by rw [spec_MissingFrom_eq]; exact h)

end Go.Proofs.YtkifkdkjljcclaaGreat
