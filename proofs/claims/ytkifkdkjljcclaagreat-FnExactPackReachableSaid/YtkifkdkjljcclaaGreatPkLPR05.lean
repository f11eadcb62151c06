/- Printed by a program of this claim's author: each Go function as a Lean function over abstract combinators, and the equation that says that T makes it of the loaded code. -/
import Derived.Test.YtkifkdkjljcclaaGreatProg
import Derived.Test.YtkifkdkjljcclaaGreatPkLPR02
namespace Go.Proofs.YtkifkdkjljcclaaGreat
open Go.Sx
theorem mixed : Tryz.prog.follows .mixedOrders = true := by kernel_rfl

abbrev n_laws_FnExactPackReachable : Nat := 7
abbrev n_laws_szStore : Nat := 63
abbrev n_laws_szKeyS : Nat := 64
abbrev n_spec_PackReachable : Nat := 65
abbrev n_laws_toStore : Nat := 66
abbrev n_laws_toKeyS : Nat := 67
abbrev n_impl_PackReachable : Nat := 68
abbrev n_laws_eqByteS : Nat := 69
abbrev n_laws_eqStore : Nat := 70
abbrev n_laws_eqKeyS : Nat := 71
abbrev n_laws_markStore : Nat := 72
abbrev n_laws_markKeyS : Nat := 73
abbrev n_laws_markByteS : Nat := 74
abbrev n_laws_heldByteS : Nat := 75
abbrev n_spec_l05Open : Nat := 102
abbrev n_spec_l06Pack : Nat := 103
abbrev n_impl_pack : Nat := 108
abbrev n_impl_within : Nat := 110
abbrev n_impl_size_byte : Nat := 111
abbrev n_slices_Clone_sl_byte_byte : Nat := 112
abbrev n_impl_keyOfPack : Nat := 114
abbrev n_impl_sorted : Nat := 117
abbrev n_slices_DeleteFunc_sl_impl_Key_impl_Key : Nat := 118
abbrev n_slices_Clone_sl_impl_Key_impl_Key : Nat := 119
abbrev n_slices_Contains_sl_impl_Key_impl_Key : Nat := 123
abbrev n_impl_compareKeys : Nat := 130
abbrev n_spec_l01Compare : Nat := 134
abbrev n_spec_l01Has : Nat := 136
abbrev n_ptr_impl_shop_kept : Nat := 141
abbrev n_ptr_spec_l05Store_keep : Nat := 144
abbrev n_impl_reachCode : Nat := 147
abbrev n_ptr_impl_shop_reached : Nat := 148
abbrev n_impl_newShop : Nat := 149
abbrev n_spec_l05Asked : Nat := 150
abbrev n_ptr_spec_l05Store_reach : Nat := 151
abbrev n_impl_keysIn : Nat := 159
abbrev n_spec_l01Hash : Nat := 161
abbrev n_laws_szBlobS : Nat := 171
abbrev n_laws_toBlobS : Nat := 172
abbrev n_laws_toKey : Nat := 173
abbrev n_impl_PackReachable_1 : Nat := 174
abbrev n_laws_eqBlobS : Nat := 175
abbrev n_laws_eqKey : Nat := 176
abbrev n_laws_markBlobS : Nat := 177
abbrev n_ptr_impl_shop_has : Nat := 180
abbrev n_ptr_impl_shop_get : Nat := 181
abbrev n_impl_Blob_links : Nat := 182
abbrev n_ptr_spec_l05Store_find : Nat := 184
abbrev n_spec_l05Links : Nat := 185
abbrev n_impl_ValidBlob : Nat := 187
abbrev n_impl_Blob_key : Nat := 207
abbrev n_spec_l05Blob : Nat := 216
abbrev n_spec_l05Key : Nat := 217
abbrev n_spec_l06Delta : Nat := 218
abbrev n_impl_DeltaOf : Nat := 223
abbrev n_impl_appendLittle : Nat := 224
abbrev n_impl_hash : Nat := 225
abbrev n_slices_SortFunc_sl_impl_Key_impl_Key : Nat := 228
abbrev n_slices_Compact_sl_impl_Key_impl_Key : Nat := 229
abbrev n_slices_IndexFunc_sl_impl_Key_impl_Key : Nat := 230
abbrev n_slices_Index_sl_impl_Key_impl_Key : Nat := 232
abbrev n_spec_l00In : Nat := 233
abbrev n_slices_Compare_sl_byte_byte : Nat := 239
abbrev n_ptr_impl_shop_reach : Nat := 249
abbrev n_ptr_impl_shop_store : Nat := 250
abbrev n_slices_ContainsFunc_sl_sl_impl_Key_sl_impl_Key : Nat := 252
abbrev n_impl_reachCode_1 : Nat := 253
abbrev n_ptr_impl_shop_reached_1 : Nat := 254
abbrev n_impl_ValidStore : Nat := 255
abbrev n_impl_Store_keys : Nat := 256
abbrev n_slices_Clone_sl_impl_Blob_impl_Blob : Nat := 257
abbrev n_spec_l01End : Nat := 261
abbrev n_spec_l01Start : Nat := 262
abbrev n_impl_ValidEntry : Nat := 263
abbrev n_laws_szBlob : Nat := 268
abbrev n_laws_toBlob : Nat := 269
abbrev n_laws_eqBlob : Nat := 270
abbrev n_ptr_impl_shop_find : Nat := 271
abbrev n_impl_ReadMapNode : Nat := 272
abbrev n_impl_EmptyMapKey : Nat := 273
abbrev n_impl_Blob_links_1 : Nat := 274
abbrev n_spec_l05Keys : Nat := 275
abbrev n_spec_l04Read : Nat := 276
abbrev n_spec_l04Empty : Nat := 277
abbrev n_slices_Concat_sl_byte_byte : Nat := 282
abbrev n_spec_l04Entry : Nat := 286
abbrev n_spec_l06Match : Nat := 302
abbrev n_spec_l06Plain : Nat := 303
abbrev n_impl_littleNumber : Nat := 305
abbrev n_impl_delta : Nat := 308
abbrev n_impl_blocks : Nat := 309
abbrev n_impl_padding : Nat := 310
abbrev n_impl_keyOf : Nat := 311
abbrev n_impl_mixed : Nat := 312
abbrev n_impl_StartState : Nat := 313
abbrev n_cmp_Compare_byte : Nat := 317
abbrev n_ptr_impl_shop_reach_1 : Nat := 320
abbrev n_impl_Blob_copied : Nat := 321
abbrev n_slices_IndexFunc_sl_sl_impl_Key_sl_impl_Key : Nat := 322
abbrev n_slices_ContainsFunc_sl_impl_Blob_impl_Blob : Nat := 323
abbrev n_impl_ValidStore_1 : Nat := 324
abbrev n_slices_IsSortedFunc_sl_impl_Key_impl_Key : Nat := 325
abbrev n_spec_l01Padded : Nat := 326
abbrev n_spec_l01Mix : Nat := 327
abbrev n_spec_l01Block : Nat := 328
abbrev n_impl_isName : Nat := 329
abbrev n_laws_szByteS : Nat := 331
abbrev n_laws_toByteS : Nat := 332
abbrev n_slices_BinarySearchFunc_sl_impl_Key_impl_Key_impl_Key : Nat := 333
abbrev n_slices_Grow_sl_byte_byte : Nat := 335
abbrev n_spec_l04Name : Nat := 339
abbrev n_impl_delta_1 : Nat := 345
abbrev n_impl_MixBlock : Nat := 346
abbrev n_cmp_isNaN_byte : Nat := 356
abbrev n_slices_IndexFunc_sl_impl_Blob_impl_Blob : Nat := 357
abbrev n_spec_l01Turn : Nat := 358
abbrev n_math_bits_RotateLeft32 : Nat := 363
abbrev ty_x : Nat := 0
abbrev ty_int64 : Nat := 2
abbrev ty_int : Nat := 3
abbrev ty_bool : Nat := 4
abbrev ty_uint8 : Nat := 5
abbrev ty_string : Nat := 9
abbrev ty_sl_uint8 : Nat := 22
abbrev ty_sl_impl_Blob : Nat := 24
abbrev ty_impl_Store : Nat := 26
abbrev ty_impl_Blob : Nat := 39
abbrev ty_arr32_uint8 : Nat := 44
abbrev ty_impl_Key : Nat := 45
abbrev ty_sl_impl_Key : Nat := 53
abbrev ty_impl_Commit : Nat := 59
abbrev ty_impl_Lease : Nat := 73
abbrev ty_sl_impl_Entry : Nat := 85
abbrev ty_sl_laws_Blob : Nat := 89
abbrev ty_laws_Store : Nat := 91
abbrev ty_sl_arr32_uint8 : Nat := 92
abbrev ty_sl_sl_uint8 : Nat := 117
abbrev ty_impl_ledger : Nat := 153
abbrev ty_spec_l05Store : Nat := 176
abbrev ty_ptr_impl_shop : Nat := 177
abbrev ty_map_impl_Key_bool : Nat := 178
abbrev ty_sl_bool : Nat := 182
abbrev ty_impl_shop : Nat := 187
abbrev ty_impl_Entry : Nat := 232
abbrev ty_impl_MapNode : Nat := 234
abbrev ty_uint64 : Nat := 263
abbrev ty_spec_l00Src : Nat := 265
abbrev ty_sl_sl_impl_Key : Nat := 298
abbrev ty_uint32 : Nat := 306
abbrev ty_arr8_uint32 : Nat := 307
abbrev ty_laws_Blob : Nat := 315
abbrev ty_impl_tree : Nat := 329
def laws_FnExactPackReachable (C : Comb) (x0 : Array Value) (x1 : Sl) : C.St :=
 C.new ty_laws_Store (.agg x0) fun b2 =>
 C.ld .agg 1 (Addr.mk b2 0 none) fun v17 =>
 C.call n_laws_szStore [(.agg v17), (.int .i64 1048576)] [(.int .i64)] fun r19 =>
 cond (decide (r19 < 0)) (
 C.ret (.bool true)
 ) (
 C.call n_laws_szKeyS [(.slice x1.a x1.n x1.c), (.int .i64 r19)] [(.int .i64)] fun r24 =>
 cond (decide (r24 < 0)) (
 C.ret (.bool true)
 ) (
 C.ld .agg 1 (Addr.mk b2 0 none) fun v28 =>
 C.call n_laws_toStore [(.agg v28)] [.agg] fun r29 =>
 C.call n_laws_toKeyS [(.slice x1.a x1.n x1.c)] [.slice] fun r31 =>
 C.call n_spec_PackReachable [(.agg r29), (.slice r31.a r31.n r31.c)] [.slice, (.int .i64)] fun r32 =>
 C.ld .agg 1 (Addr.mk b2 0 none) fun v35 =>
 C.call n_laws_toStore [(.agg v35)] [.agg] fun r36 =>
 C.new ty_impl_Store (.agg (#[(.slice none 0 0)])) fun b8 =>
 C.st 1 (Addr.mk b8 0 none) (.agg r36) <|
 C.call n_laws_toKeyS [(.slice x1.a x1.n x1.c)] [.slice] fun r38 =>
 C.ld .agg 1 (Addr.mk b8 0 none) fun v40 =>
 C.call n_impl_PackReachable [(.agg v40), (.slice r38.a r38.n r38.c)] [.slice, (.int .i64)] fun r42 =>
 C.join (TL []) (embL []) (fun s16 => C.any fun _ =>
 C.join (TL []) (embL []) (fun s21 => C.any fun _ =>
 C.call n_laws_toKeyS [(.slice x1.a x1.n x1.c)] [.slice] fun r61 =>
 C.call n_laws_eqKeyS [(.slice r38.a r38.n r38.c), (.slice r61.a r61.n r61.c)] [.bool] fun r62 =>
 cond (!r62) (
 C.ret (.bool false)
 ) (
 C.ld .agg 1 (Addr.mk b8 0 none) fun v64 =>
 C.call n_laws_markStore [(.agg v64), (.int .i64 1)] [(.int .i64)] fun r66 =>
 C.call n_laws_markKeyS [(.slice r38.a r38.n r38.c), (.int .i64 r66)] [(.int .i64)] fun r69 =>
 C.join (TL []) (embL []) (fun s28 => C.any fun _ =>
 C.call n_laws_markByteS [(.slice r42.1.a r42.1.n r42.1.c), (.int .i64 1)] [(.int .i64)] fun r85 =>
 C.call n_laws_heldByteS [(.slice r42.1.a r42.1.n r42.1.c), (.int .i64 1)] [(.int .i64)] fun r88 =>
 cond (decide (r88 < 0)) (
 C.ret (.bool false)
 ) (
 cond (r88 != r85) (
 C.ret (.bool false)
 ) (
 C.ld .agg 1 (Addr.mk b2 0 none) fun v95 =>
 C.call n_laws_toStore [(.agg v95)] [.agg] fun r96 =>
 C.call n_laws_toKeyS [(.slice x1.a x1.n x1.c)] [.slice] fun r98 =>
 C.call n_impl_PackReachable [(.agg r96), (.slice r98.a r98.n r98.c)] [.slice, (.int .i64)] fun r99 =>
 C.join (TL []) (embL []) (fun s36 => C.any fun _ =>
 C.call n_laws_heldByteS [(.slice r42.1.a r42.1.n r42.1.c), (.int .i64 1)] [(.int .i64)] fun r113 =>
 cond (decide (r113 < 0)) (
 C.ret (.bool false)
 ) (
 cond (r113 != r85) (
 C.ret (.bool false)
 ) (
 C.ret (.bool true)
 )
 )
 ) fun jt =>
 C.call n_laws_eqByteS [(.slice r99.1.a r99.1.n r99.1.c), (.slice r32.1.a r32.1.n r32.1.c)] [.bool] fun r104 =>
 cond (!r104) (
 C.ret (.bool false)
 ) (
 cond (r99.2 != r32.2) (
 C.ret (.bool false)
 ) (
 jt []
 )
 )
 )
 )
 ) fun jt =>
 cond (decide (r69 < 0)) (
 C.ret (.bool false)
 ) (
 C.call n_laws_eqByteS [(.slice r42.1.a r42.1.n r42.1.c), (.slice r32.1.a r32.1.n r32.1.c)] [.bool] fun r75 =>
 cond (!r75) (
 C.ret (.bool false)
 ) (
 cond (r42.2 != r32.2) (
 C.ret (.bool false)
 ) (
 jt []
 )
 )
 )
 )
 ) fun jt =>
 C.draw <|
 C.ld .agg 1 (Addr.mk b8 0 none) fun v54 =>
 C.ld .agg 1 (Addr.mk b2 0 none) fun v55 =>
 C.call n_laws_toStore [(.agg v55)] [.agg] fun r56 =>
 C.chk [⟨0, 1, (Addr.mk b8 0 none), .agg, v54⟩] <|
 C.call n_laws_eqStore [(.agg v54), (.agg r56)] [.bool] fun r57 =>
 cond (!r57) (
 C.ret (.bool false)
 ) (
 jt []
 )
 ) fun jt =>
 C.call n_laws_eqByteS [(.slice r42.1.a r42.1.n r42.1.c), (.slice r32.1.a r32.1.n r32.1.c)] [.bool] fun r47 =>
 cond (!r47) (
 C.ret (.bool false)
 ) (
 cond (r42.2 != r32.2) (
 C.ret (.bool false)
 ) (
 jt []
 )
 )
 )
 )
theorem laws_FnExactPackReachable_eq (C : Comb) (x0 : Array Value) (x1 : Sl) : fT C Tryz.prog ⟨[], [(159, []), (174, []), (246, []), (330, [])], [14], []⟩ n_laws_FnExactPackReachable [(.agg x0), (.slice x1.a x1.n x1.c)] = laws_FnExactPackReachable C x0 x1 := by kernel_rfl
theorem laws_FnExactPackReachable_calls {R : Value → World → Prop} {w : World} (x0 : Array Value) (x1 : Sl) (h : (laws_FnExactPackReachable (real Tryz.prog R) x0 x1 : World → Prop) w) :
    Calls Tryz.prog n_laws_FnExactPackReachable [(.agg x0), (.slice x1.a x1.n x1.c)].toArray w fun e w' => ∃ v, e = .returned v ∧ R v w' := fT_sound mixed ⟨[], [(159, []), (174, []), (246, []), (330, [])], [14], []⟩ (by rw [laws_FnExactPackReachable_eq]; exact h)

def laws_szStore (C : Comb) (x0 : Array Value) (x1 : Int) : C.St :=
 C.new ty_laws_Store (.agg x0) fun b2 =>
 C.ld .slice 1 ((Addr.mk b2 0 none).add 0) fun v6 =>
 C.call n_laws_szBlobS [(.slice v6.a v6.n v6.c), (.int .i64 x1)] [(.int .i64)] fun r8 =>
 cond (decide (r8 < 0)) (
 C.ret (.int .i64 (-1))
 ) (
 C.ret (.int .i64 r8)
 )
theorem laws_szStore_eq (C : Comb) (x0 : Array Value) (x1 : Int) : fT C Tryz.prog ⟨[], [], [], []⟩ n_laws_szStore [(.agg x0), (.int .i64 x1)] = laws_szStore C x0 x1 := by kernel_rfl
theorem laws_szStore_calls {R : Value → World → Prop} {w : World} (x0 : Array Value) (x1 : Int) (h : (laws_szStore (real Tryz.prog R) x0 x1 : World → Prop) w) :
    Calls Tryz.prog n_laws_szStore [(.agg x0), (.int .i64 x1)].toArray w fun e w' => ∃ v, e = .returned v ∧ R v w' := fT_sound mixed ⟨[], [], [], []⟩ (by rw [laws_szStore_eq]; exact h)

def laws_szKeyS (C : Comb) (x0 : Sl) (x1 : Int) : C.St :=
 cond (decide ((IntKind.wrap .i64 (x1 - (x0.n : Int))) < 0)) (
 C.ret (.int .i64 (-1))
 ) (
 C.ret (.int .i64 (IntKind.wrap .i64 (x1 - (x0.n : Int))))
 )
theorem laws_szKeyS_eq (C : Comb) (x0 : Sl) (x1 : Int) : fT C Tryz.prog ⟨[], [], [], []⟩ n_laws_szKeyS [(.slice x0.a x0.n x0.c), (.int .i64 x1)] = laws_szKeyS C x0 x1 := by kernel_rfl
theorem laws_szKeyS_calls {R : Value → World → Prop} {w : World} (x0 : Sl) (x1 : Int) (h : (laws_szKeyS (real Tryz.prog R) x0 x1 : World → Prop) w) :
    Calls Tryz.prog n_laws_szKeyS [(.slice x0.a x0.n x0.c), (.int .i64 x1)].toArray w fun e w' => ∃ v, e = .returned v ∧ R v w' := fT_sound mixed ⟨[], [], [], []⟩ (by rw [laws_szKeyS_eq]; exact h)

def spec_PackReachable (C : Comb) (x0 : Array Value) (x1 : Sl) : C.St :=
 C.new ty_impl_Store (.agg x0) fun b2 =>
 C.call n_spec_l05Asked [(.pointer (some (Addr.mk b2 0 none))), (.slice x1.a x1.n x1.c)] [.optr, (.int .i64)] fun r12 =>
 cond (r12.2 != 0) (
 C.sem (Instr.buildSlice ty_sl_uint8 0 #[]) .slice fun y17 =>
 C.ret (.tuple #[(.slice y17.a y17.n y17.c), (.int .i64 r12.2)])
 ) (
 C.call n_ptr_spec_l05Store_reach [(.pointer r12.1), (.slice x1.a x1.n x1.c)] [.slice, .slice] fun r22 =>
 C.call n_ptr_spec_l05Store_keep [(.pointer r12.1), (.slice r22.1.a r22.1.n r22.1.c)] [.ptr] fun r27 =>
 C.call n_spec_l06Pack [(.pointer (some r27))] [.slice] fun r28 =>
 C.ret (.tuple #[(.slice r28.a r28.n r28.c), (.int .i64 0)])
 )
theorem spec_PackReachable_eq (C : Comb) (x0 : Array Value) (x1 : Sl) : fT C Tryz.prog ⟨[], [], [], []⟩ n_spec_PackReachable [(.agg x0), (.slice x1.a x1.n x1.c)] = spec_PackReachable C x0 x1 := by kernel_rfl
theorem spec_PackReachable_calls {R : Value → World → Prop} {w : World} (x0 : Array Value) (x1 : Sl) (h : (spec_PackReachable (real Tryz.prog R) x0 x1 : World → Prop) w) :
    Calls Tryz.prog n_spec_PackReachable [(.agg x0), (.slice x1.a x1.n x1.c)].toArray w fun e w' => ∃ v, e = .returned v ∧ R v w' := fT_sound mixed ⟨[], [], [], []⟩ (by rw [spec_PackReachable_eq]; exact h)

def laws_toStore (C : Comb) (x0 : Array Value) : C.St :=
 C.new ty_laws_Store (.agg x0) fun b1 =>
 C.new ty_impl_Store (.agg (#[(.slice none 0 0)])) fun b2 =>
 C.new ty_impl_Store (.agg (#[(.slice none 0 0)])) fun b3 =>
 C.ld .slice 1 ((Addr.mk b1 0 none).add 0) fun v5 =>
 C.call n_laws_toBlobS [(.slice v5.a v5.n v5.c)] [.slice] fun r6 =>
 C.st 1 ((Addr.mk b3 0 none).add 0) (.slice r6.a r6.n r6.c) <|
 C.ld .agg 1 (Addr.mk b3 0 none) fun v8 =>
 C.st 1 (Addr.mk b2 0 none) (.agg v8) <|
 C.ld .agg 1 (Addr.mk b2 0 none) fun z7 =>
 C.ret (.agg z7)
theorem laws_toStore_eq (C : Comb) (x0 : Array Value) : fT C Tryz.prog ⟨[], [], [], []⟩ n_laws_toStore [(.agg x0)] = laws_toStore C x0 := by kernel_rfl
theorem laws_toStore_calls {R : Value → World → Prop} {w : World} (x0 : Array Value) (h : (laws_toStore (real Tryz.prog R) x0 : World → Prop) w) :
    Calls Tryz.prog n_laws_toStore [(.agg x0)].toArray w fun e w' => ∃ v, e = .returned v ∧ R v w' := fT_sound mixed ⟨[], [], [], []⟩ (by rw [laws_toStore_eq]; exact h)

def laws_toKeyS (C : Comb) (x0 : Sl) : C.St :=
 C.sem (Instr.makeSlice ty_sl_impl_Key (.int .i64 (x0.n : Int)) (.int .i64 (x0.n : Int))) .slice fun y7 =>
 C.loop (TL [(.int .i64)]) (embL [(.int .i64)]) [(.int .i64 0)] fun s2 ct2 => C.any fun _ =>
 cond (decide (s2 < (x0.n : Int))) (
 C.ix x0.a x0.n 32 s2 fun p18 =>
 C.ld .agg 32 p18 fun v19 =>
 C.call n_laws_toKey [(.agg v19)] [.agg] fun r20 =>
 C.ix y7.a y7.n 32 s2 fun p21 =>
 C.st 32 p21 (.agg r20) <|
 ct2 [(.int .i64 (IntKind.wrap .i64 (s2 + 1)))]
 ) (
 C.ret (.slice y7.a y7.n y7.c)
 )
theorem laws_toKeyS_eq (C : Comb) (x0 : Sl) : fT C Tryz.prog ⟨[(3, [(4, (.int .i64))])], [], [], []⟩ n_laws_toKeyS [(.slice x0.a x0.n x0.c)] = laws_toKeyS C x0 := by kernel_rfl
theorem laws_toKeyS_calls {R : Value → World → Prop} {w : World} (x0 : Sl) (h : (laws_toKeyS (real Tryz.prog R) x0 : World → Prop) w) :
    Calls Tryz.prog n_laws_toKeyS [(.slice x0.a x0.n x0.c)].toArray w fun e w' => ∃ v, e = .returned v ∧ R v w' := fT_sound mixed ⟨[(3, [(4, (.int .i64))])], [], [], []⟩ (by rw [laws_toKeyS_eq]; exact h)

def impl_PackReachable (C : Comb) (x0 : Array Value) (x1 : Sl) : C.St :=
 C.new ty_impl_Store (.agg x0) fun b2 =>
 C.ld .agg 1 (Addr.mk b2 0 none) fun v10 =>
 C.sem (Instr.buildSlice ty_sl_sl_impl_Key 1 #[(0, (.slice x1.a x1.n x1.c))]) .slice fun y12 =>
 C.call n_impl_reachCode [(.agg v10), (.slice y12.a y12.n y12.c)] [.optr, (.int .i64)] fun r13 =>
 cond (r13.2 != 0) (
 C.ret (.tuple #[(.slice none 0 0), (.int .i64 r13.2)])
 ) (
 C.call n_ptr_impl_shop_reached [(.pointer r13.1), (.slice x1.a x1.n x1.c), (.bool true)] [.slice] fun r21 =>
 C.new ty_sl_impl_Key (.slice none 0 0) fun b8 =>
 C.st 1 (Addr.mk b8 0 none) (.slice r21.a r21.n r21.c) <|
 C.call n_ptr_impl_shop_kept [(.pointer r13.1), (.func (.func n_impl_PackReachable_1) #[] #[(.pointer (some (Addr.mk b8 0 none)))])] [.agg] fun r24 =>
 C.call n_impl_pack [(.agg r24)] [.slice] fun r25 =>
 C.ret (.tuple #[(.slice r25.a r25.n r25.c), (.int .i64 0)])
 )
theorem impl_PackReachable_eq (C : Comb) (x0 : Array Value) (x1 : Sl) : fT C Tryz.prog ⟨[], [], [], []⟩ n_impl_PackReachable [(.agg x0), (.slice x1.a x1.n x1.c)] = impl_PackReachable C x0 x1 := by kernel_rfl
theorem impl_PackReachable_calls {R : Value → World → Prop} {w : World} (x0 : Array Value) (x1 : Sl) (h : (impl_PackReachable (real Tryz.prog R) x0 x1 : World → Prop) w) :
    Calls Tryz.prog n_impl_PackReachable [(.agg x0), (.slice x1.a x1.n x1.c)].toArray w fun e w' => ∃ v, e = .returned v ∧ R v w' := fT_sound mixed ⟨[], [], [], []⟩ (by rw [impl_PackReachable_eq]; exact h)

def laws_eqByteS (C : Comb) (x0 : Sl) (x1 : Sl) : C.St :=
 cond ((x0.n : Int) != (x1.n : Int)) (
 C.ret (.bool false)
 ) (
 C.loop (TL [(.int .i64)]) (embL [(.int .i64)]) [(.int .i64 0)] fun s1 ct1 => C.any fun _ =>
 cond (decide (s1 < (x0.n : Int))) (
 C.draw <|
 C.ix x0.a x0.n 1 s1 fun p19 =>
 C.ld (.int .u8) 1 p19 fun v20 =>
 C.ix x1.a x1.n 1 s1 fun p23 =>
 C.ld (.int .u8) 1 p23 fun v24 =>
 cond (v20 != v24) (
 C.ret (.bool false)
 ) (
 ct1 [(.int .i64 (IntKind.wrap .i64 (s1 + 1)))]
 )
 ) (
 C.ret (.bool true)
 )
 )
theorem laws_eqByteS_eq (C : Comb) (x0 : Sl) (x1 : Sl) : fT C Tryz.prog ⟨[(4, [(5, (.int .i64))])], [], [], []⟩ n_laws_eqByteS [(.slice x0.a x0.n x0.c), (.slice x1.a x1.n x1.c)] = laws_eqByteS C x0 x1 := by kernel_rfl
theorem laws_eqByteS_calls {R : Value → World → Prop} {w : World} (x0 : Sl) (x1 : Sl) (h : (laws_eqByteS (real Tryz.prog R) x0 x1 : World → Prop) w) :
    Calls Tryz.prog n_laws_eqByteS [(.slice x0.a x0.n x0.c), (.slice x1.a x1.n x1.c)].toArray w fun e w' => ∃ v, e = .returned v ∧ R v w' := fT_sound mixed ⟨[(4, [(5, (.int .i64))])], [], [], []⟩ (by rw [laws_eqByteS_eq]; exact h)

def laws_eqStore (C : Comb) (x0 : Array Value) (x1 : Array Value) : C.St :=
 C.new ty_impl_Store (.agg x0) fun b2 =>
 C.new ty_impl_Store (.agg x1) fun b3 =>
 C.ld .slice 1 ((Addr.mk b2 0 none).add 0) fun v6 =>
 C.ld .slice 1 ((Addr.mk b3 0 none).add 0) fun v8 =>
 C.call n_laws_eqBlobS [(.slice v6.a v6.n v6.c), (.slice v8.a v8.n v8.c)] [.bool] fun r9 =>
 cond (!r9) (
 C.ret (.bool false)
 ) (
 C.ret (.bool true)
 )
theorem laws_eqStore_eq (C : Comb) (x0 : Array Value) (x1 : Array Value) : fT C Tryz.prog ⟨[], [], [], []⟩ n_laws_eqStore [(.agg x0), (.agg x1)] = laws_eqStore C x0 x1 := by kernel_rfl
theorem laws_eqStore_calls {R : Value → World → Prop} {w : World} (x0 : Array Value) (x1 : Array Value) (h : (laws_eqStore (real Tryz.prog R) x0 x1 : World → Prop) w) :
    Calls Tryz.prog n_laws_eqStore [(.agg x0), (.agg x1)].toArray w fun e w' => ∃ v, e = .returned v ∧ R v w' := fT_sound mixed ⟨[], [], [], []⟩ (by rw [laws_eqStore_eq]; exact h)

def laws_eqKeyS (C : Comb) (x0 : Sl) (x1 : Sl) : C.St :=
 cond ((x0.n : Int) != (x1.n : Int)) (
 C.ret (.bool false)
 ) (
 C.loop (TL [(.int .i64)]) (embL [(.int .i64)]) [(.int .i64 0)] fun s1 ct1 => C.any fun _ =>
 cond (decide (s1 < (x0.n : Int))) (
 C.draw <|
 C.ix x0.a x0.n 32 s1 fun p19 =>
 C.ld .agg 32 p19 fun v20 =>
 C.ix x1.a x1.n 32 s1 fun p23 =>
 C.ld .agg 32 p23 fun v24 =>
 C.call n_laws_eqKey [(.agg v20), (.agg v24)] [.bool] fun r25 =>
 cond (!r25) (
 C.ret (.bool false)
 ) (
 ct1 [(.int .i64 (IntKind.wrap .i64 (s1 + 1)))]
 )
 ) (
 C.ret (.bool true)
 )
 )
theorem laws_eqKeyS_eq (C : Comb) (x0 : Sl) (x1 : Sl) : fT C Tryz.prog ⟨[(4, [(5, (.int .i64))])], [], [6], []⟩ n_laws_eqKeyS [(.slice x0.a x0.n x0.c), (.slice x1.a x1.n x1.c)] = laws_eqKeyS C x0 x1 := by kernel_rfl
theorem laws_eqKeyS_calls {R : Value → World → Prop} {w : World} (x0 : Sl) (x1 : Sl) (h : (laws_eqKeyS (real Tryz.prog R) x0 x1 : World → Prop) w) :
    Calls Tryz.prog n_laws_eqKeyS [(.slice x0.a x0.n x0.c), (.slice x1.a x1.n x1.c)].toArray w fun e w' => ∃ v, e = .returned v ∧ R v w' := fT_sound mixed ⟨[(4, [(5, (.int .i64))])], [], [6], []⟩ (by rw [laws_eqKeyS_eq]; exact h)

def laws_markStore (C : Comb) (x0 : Array Value) (x1 : Int) : C.St :=
 C.new ty_impl_Store (.agg x0) fun b2 =>
 C.ld .slice 1 ((Addr.mk b2 0 none).add 0) fun v6 =>
 C.call n_laws_markBlobS [(.slice v6.a v6.n v6.c), (.int .i64 x1)] [(.int .i64)] fun r8 =>
 C.ret (.int .i64 r8)
theorem laws_markStore_eq (C : Comb) (x0 : Array Value) (x1 : Int) : fT C Tryz.prog ⟨[], [], [], []⟩ n_laws_markStore [(.agg x0), (.int .i64 x1)] = laws_markStore C x0 x1 := by kernel_rfl
theorem laws_markStore_calls {R : Value → World → Prop} {w : World} (x0 : Array Value) (x1 : Int) (h : (laws_markStore (real Tryz.prog R) x0 x1 : World → Prop) w) :
    Calls Tryz.prog n_laws_markStore [(.agg x0), (.int .i64 x1)].toArray w fun e w' => ∃ v, e = .returned v ∧ R v w' := fT_sound mixed ⟨[], [], [], []⟩ (by rw [laws_markStore_eq]; exact h)

def laws_markKeyS (C : Comb) (x0 : Sl) (x1 : Int) : C.St :=
 C.loop (TL [(.int .i64), (.int .i64)]) (embL [(.int .i64), (.int .i64)]) [(.int .i64 x1), (.int .i64 0)] fun s1 ct1 => C.any fun _ =>
 cond (decide (s1.2 < (x0.n : Int))) (
 C.loop (TL [(.int .i64), (.int .i64)]) (embL [(.int .i64), (.int .i64)]) [(.int .i64 s1.1), (.int .i64 0)] fun s2 ct2 => C.any fun _ =>
 cond (decide (s2.2 < 32)) (
 C.ix x0.a x0.n 32 s1.2 fun p22 =>
 C.ix (some p22) 32 1 s2.2 fun p23 =>
 C.st 1 p23 (.int .u8 (IntKind.wrap .u8 (s2.1))) <|
 ct2 [(.int .i64 (IntKind.wrap .i64 (s2.1 + 1))), (.int .i64 (IntKind.wrap .i64 (s2.2 + 1)))]
 ) (
 ct1 [(.int .i64 s2.1), (.int .i64 (IntKind.wrap .i64 (s1.2 + 1)))]
 )
 ) (
 C.ret (.int .i64 s1.1)
 )
theorem laws_markKeyS_eq (C : Comb) (x0 : Sl) (x1 : Int) : fT C Tryz.prog ⟨[(2, [(1, (.int .i64)), (5, (.int .i64))]), (5, [(1, (.int .i64)), (6, (.int .i64))])], [], [], []⟩ n_laws_markKeyS [(.slice x0.a x0.n x0.c), (.int .i64 x1)] = laws_markKeyS C x0 x1 := by kernel_rfl
theorem laws_markKeyS_calls {R : Value → World → Prop} {w : World} (x0 : Sl) (x1 : Int) (h : (laws_markKeyS (real Tryz.prog R) x0 x1 : World → Prop) w) :
    Calls Tryz.prog n_laws_markKeyS [(.slice x0.a x0.n x0.c), (.int .i64 x1)].toArray w fun e w' => ∃ v, e = .returned v ∧ R v w' := fT_sound mixed ⟨[(2, [(1, (.int .i64)), (5, (.int .i64))]), (5, [(1, (.int .i64)), (6, (.int .i64))])], [], [], []⟩ (by rw [laws_markKeyS_eq]; exact h)

def laws_markByteS (C : Comb) (x0 : Sl) (x1 : Int) : C.St :=
 C.loop (TL [(.int .i64), (.int .i64)]) (embL [(.int .i64), (.int .i64)]) [(.int .i64 x1), (.int .i64 0)] fun s1 ct1 => C.any fun _ =>
 cond (decide (s1.2 < (x0.n : Int))) (
 C.ix x0.a x0.n 1 s1.2 fun p16 =>
 C.st 1 p16 (.int .u8 (IntKind.wrap .u8 (s1.1))) <|
 ct1 [(.int .i64 (IntKind.wrap .i64 (s1.1 + 1))), (.int .i64 (IntKind.wrap .i64 (s1.2 + 1)))]
 ) (
 C.ret (.int .i64 s1.1)
 )
theorem laws_markByteS_eq (C : Comb) (x0 : Sl) (x1 : Int) : fT C Tryz.prog ⟨[(2, [(1, (.int .i64)), (5, (.int .i64))])], [], [], []⟩ n_laws_markByteS [(.slice x0.a x0.n x0.c), (.int .i64 x1)] = laws_markByteS C x0 x1 := by kernel_rfl
theorem laws_markByteS_calls {R : Value → World → Prop} {w : World} (x0 : Sl) (x1 : Int) (h : (laws_markByteS (real Tryz.prog R) x0 x1 : World → Prop) w) :
    Calls Tryz.prog n_laws_markByteS [(.slice x0.a x0.n x0.c), (.int .i64 x1)].toArray w fun e w' => ∃ v, e = .returned v ∧ R v w' := fT_sound mixed ⟨[(2, [(1, (.int .i64)), (5, (.int .i64))])], [], [], []⟩ (by rw [laws_markByteS_eq]; exact h)

def laws_heldByteS (C : Comb) (x0 : Sl) (x1 : Int) : C.St :=
 C.loop (TL [(.int .i64), (.int .i64)]) (embL [(.int .i64), (.int .i64)]) [(.int .i64 x1), (.int .i64 0)] fun s1 ct1 => C.any fun _ =>
 cond (decide (s1.2 < (x0.n : Int))) (
 C.ix x0.a x0.n 1 s1.2 fun p14 =>
 C.ld (.int .u8) 1 p14 fun v15 =>
 cond (v15 != (IntKind.wrap .u8 (s1.1))) (
 C.ret (.int .i64 (-1))
 ) (
 ct1 [(.int .i64 (IntKind.wrap .i64 (s1.1 + 1))), (.int .i64 (IntKind.wrap .i64 (s1.2 + 1)))]
 )
 ) (
 C.ret (.int .i64 s1.1)
 )
theorem laws_heldByteS_eq (C : Comb) (x0 : Sl) (x1 : Int) : fT C Tryz.prog ⟨[(2, [(1, (.int .i64)), (5, (.int .i64))])], [], [], []⟩ n_laws_heldByteS [(.slice x0.a x0.n x0.c), (.int .i64 x1)] = laws_heldByteS C x0 x1 := by kernel_rfl
theorem laws_heldByteS_calls {R : Value → World → Prop} {w : World} (x0 : Sl) (x1 : Int) (h : (laws_heldByteS (real Tryz.prog R) x0 x1 : World → Prop) w) :
    Calls Tryz.prog n_laws_heldByteS [(.slice x0.a x0.n x0.c), (.int .i64 x1)].toArray w fun e w' => ∃ v, e = .returned v ∧ R v w' := fT_sound mixed ⟨[(2, [(1, (.int .i64)), (5, (.int .i64))])], [], [], []⟩ (by rw [laws_heldByteS_eq]; exact h)

end Go.Proofs.YtkifkdkjljcclaaGreat
