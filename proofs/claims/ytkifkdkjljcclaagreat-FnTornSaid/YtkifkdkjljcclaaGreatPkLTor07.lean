/- Printed by a program of this claim's author: each Go function as a Lean function over abstract combinators, and the equation that says that T makes it of the loaded code. -/
import Derived.Test.YtkifkdkjljcclaaGreatProg
import Derived.Test.YtkifkdkjljcclaaGreatPkLTor02
namespace Go.Proofs.YtkifkdkjljcclaaGreat
open Go.Sx
theorem mixed : Tryz.prog.follows .mixedOrders = true := by kernel_rfl

abbrev n_laws_FnTorn : Nat := 3
abbrev n_laws_f6big : Nat := 10
abbrev n_spec_P6Alike : Nat := 11
abbrev n_spec_PackStore : Nat := 12
abbrev n_spec_P6Pick : Nat := 13
abbrev n_impl_ReadPack : Nat := 14
abbrev n_impl_ScanPack : Nat := 15
abbrev n_impl_MendPack : Nat := 16
abbrev n_spec_SameStore : Nat := 17
abbrev n_spec_SameBlob : Nat := 18
abbrev n_impl_SpoilPack : Nat := 19
abbrev n_impl_IsPack : Nat := 20
abbrev n_spec_SameData : Nat := 21
abbrev n_impl_KeyOfPack : Nat := 22
abbrev n_spec_StoreMap : Nat := 88
abbrev n_spec_StoreList : Nat := 96
abbrev n_spec_l06Store : Nat := 100
abbrev n_spec_l00From : Nat := 101
abbrev n_spec_l05Open : Nat := 102
abbrev n_spec_l06Pack : Nat := 103
abbrev n_ptr_spec_l00Src_pick : Nat := 104
abbrev n_impl_readPack : Nat := 105
abbrev n_ptr_impl_scan_store : Nat := 106
abbrev n_impl_scanPack : Nat := 107
abbrev n_impl_pack : Nat := 108
abbrev n_spec_l05SameBlob : Nat := 109
abbrev n_impl_within : Nat := 110
abbrev n_impl_size_byte : Nat := 111
abbrev n_slices_Clone_sl_byte_byte : Nat := 112
abbrev n_spec_l01Bytes : Nat := 113
abbrev n_impl_keyOfPack : Nat := 114
abbrev n_impl_compareKeys : Nat := 130
abbrev n_spec_l01Compare : Nat := 134
abbrev n_spec_l05Drawn : Nat := 137
abbrev n_ptr_spec_l00Src_one : Nat := 138
abbrev n_ptr_spec_l05Store_keep : Nat := 144
abbrev n_ptr_spec_l05Store_store : Nat := 145
abbrev n_spec_l01Hash : Nat := 161
abbrev n_ptr_spec_l05Store_find : Nat := 184
abbrev n_spec_l05Copy : Nat := 186
abbrev n_spec_l04Drawn : Nat := 188
abbrev n_spec_l04Ok : Nat := 194
abbrev n_spec_l04Nodes : Nat := 195
abbrev n_ptr_spec_l05Store_put : Nat := 196
abbrev n_spec_l04Bytes : Nat := 197
abbrev n_spec_l05Made : Nat := 198
abbrev n_spec_l05DrawChunks : Nat := 204
abbrev n_impl_Blob_key : Nat := 207
abbrev n_ptr_spec_l05Store_list : Nat := 210
abbrev n_spec_PutBlob : Nat := 214
abbrev n_spec_l06Bytes : Nat := 215
abbrev n_spec_l05Blob : Nat := 216
abbrev n_spec_l05Key : Nat := 217
abbrev n_spec_l06Delta : Nat := 218
abbrev n_ptr_spec_l00Src_next : Nat := 219
abbrev n_impl_newScan : Nat := 220
abbrev n_ptr_impl_scan_record : Nat := 221
abbrev n_ptr_impl_scan_take : Nat := 222
abbrev n_impl_DeltaOf : Nat := 223
abbrev n_impl_appendLittle : Nat := 224
abbrev n_impl_hash : Nat := 225
abbrev n_ptr_spec_l00Src_text : Nat := 226
abbrev n_spec_l00In : Nat := 233
abbrev n_slices_Compare_sl_byte_byte : Nat := 239
abbrev n_spec_PutFolder : Nat := 243
abbrev n_spec_DropBlob : Nat := 244
abbrev n_spec_l01End : Nat := 261
abbrev n_spec_l01Start : Nat := 262
abbrev n_spec_l04Empty : Nat := 277
abbrev n_spec_l04Put : Nat := 278
abbrev n_spec_l04DrawEntry : Nat := 279
abbrev n_slices_Concat_sl_byte_byte : Nat := 282
abbrev n_spec_l04Entry : Nat := 286
abbrev n_spec_l04Top : Nat := 287
abbrev n_spec_l04NodeKey : Nat := 288
abbrev n_spec_l03Half : Nat := 298
abbrev n_spec_l06Match : Nat := 302
abbrev n_spec_l06Plain : Nat := 303
abbrev n_bytes_HasPrefix : Nat := 304
abbrev n_impl_littleNumber : Nat := 305
abbrev n_impl_apply : Nat := 306
abbrev n_bytes_Equal : Nat := 307
abbrev n_impl_delta : Nat := 308
abbrev n_impl_blocks : Nat := 309
abbrev n_impl_padding : Nat := 310
abbrev n_impl_keyOf : Nat := 311
abbrev n_impl_mixed : Nat := 312
abbrev n_impl_StartState : Nat := 313
abbrev n_cmp_Compare_byte : Nat := 317
abbrev n_spec_l01Padded : Nat := 326
abbrev n_spec_l01Mix : Nat := 327
abbrev n_spec_l01Block : Nat := 328
abbrev n_spec_l04Names : Nat := 334
abbrev n_slices_Grow_sl_byte_byte : Nat := 335
abbrev n_spec_l04Name : Nat := 339
abbrev n_spec_l04Priority : Nat := 340
abbrev n_impl_delta_1 : Nat := 345
abbrev n_impl_MixBlock : Nat := 346
abbrev n_cmp_isNaN_byte : Nat := 356
abbrev n_spec_l01Turn : Nat := 358
abbrev n_math_bits_RotateLeft32 : Nat := 363
abbrev ty_int64 : Nat := 2
abbrev ty_int : Nat := 3
abbrev ty_bool : Nat := 4
abbrev ty_uint8 : Nat := 5
abbrev ty_string : Nat := 9
abbrev ty_sl_uint8 : Nat := 22
abbrev ty_sl_impl_Blob : Nat := 24
abbrev ty_impl_Store : Nat := 26
abbrev ty_impl_Blob : Nat := 39
abbrev ty_arr32_uint8 : Nat := 44
abbrev ty_impl_Key : Nat := 45
abbrev ty_sl_impl_Key : Nat := 53
abbrev ty_impl_Commit : Nat := 59
abbrev ty_impl_Lease : Nat := 73
abbrev ty_sl_impl_Entry : Nat := 85
abbrev ty_sl_arr32_uint8 : Nat := 92
abbrev ty_sl_sl_uint8 : Nat := 117
abbrev ty_sl_impl_PackEntry : Nat := 136
abbrev ty_impl_scan : Nat := 138
abbrev ty_impl_ledger : Nat := 153
abbrev ty_spec_l05Store : Nat := 176
abbrev ty_map_impl_Key_bool : Nat := 178
abbrev ty_sl_bool : Nat := 182
abbrev ty_impl_shop : Nat := 187
abbrev ty_sl_impl_MapNode : Nat := 229
abbrev ty_impl_Entry : Nat := 232
abbrev ty_impl_MapNode : Nat := 234
abbrev ty_uint64 : Nat := 263
abbrev ty_spec_l00Src : Nat := 265
abbrev ty_impl_PackEntry : Nat := 272
abbrev ty_sl_string : Nat := 280
abbrev ty_uint32 : Nat := 306
abbrev ty_arr8_uint32 : Nat := 307
abbrev ty_impl_tree : Nat := 329
def laws_FnTorn (C : Comb) (x0 : Sl) (x1 : Sl) : C.St :=
 C.join (TL []) (embL []) (fun s3 => C.any fun _ =>
 C.call n_spec_P6Alike [(.slice x0.a x0.n x0.c)] [.agg] fun r38 =>
 C.new ty_impl_Store (.agg (#[(.slice none 0 0)])) fun b5 =>
 C.st 1 (Addr.mk b5 0 none) (.agg r38) <|
 C.ld .agg 1 (Addr.mk b5 0 none) fun v40 =>
 C.call n_spec_PackStore [(.agg v40)] [.slice, (.int .i64)] fun r41 =>
 C.call n_spec_P6Pick [(.slice x1.a x1.n x1.c), (.int .i64 (r41.1.n : Int))] [(.int .i64)] fun r48 =>
 C.sl r41.1.a r41.1.n r41.1.c 1 none (some r48) none fun y52 =>
 C.call n_impl_ReadPack [(.slice y52.a y52.n y52.c)] [.agg, (.int .i64)] fun r53 =>
 C.new ty_impl_Store (.agg (#[(.slice none 0 0)])) fun b10 =>
 C.st 1 (Addr.mk b10 0 none) (.agg r53.1) <|
 C.sl r41.1.a r41.1.n r41.1.c 1 none (some r48) none fun y59 =>
 C.call n_impl_ScanPack [(.slice y59.a y59.n y59.c)] [.agg, (.int .i64), (.int .i64)] fun r60 =>
 C.new ty_impl_Store (.agg (#[(.slice none 0 0)])) fun b12 =>
 C.st 1 (Addr.mk b12 0 none) (.agg r60.1) <|
 C.sl r41.1.a r41.1.n r41.1.c 1 none (some r48) none fun y67 =>
 C.call n_impl_MendPack [(.slice y67.a y67.n y67.c)] [.slice, (.int .i64)] fun r68 =>
 C.join (TL []) (embL []) (fun s18 => C.any fun _ =>
 C.join (TL []) (embL []) (fun s36 => C.any fun _ =>
 C.sem (Instr.buildSlice ty_sl_uint8 1 #[(0, (.int .u8 9))]) .slice fun y141 =>
 C.sem (Builtin.append_ #[ty_sl_uint8, ty_sl_uint8] ty_sl_uint8 #[(.slice y141.a y141.n y141.c), (.slice x1.a x1.n x1.c)]) .slice fun y143 =>
 C.call n_spec_P6Pick [(.slice y143.a y143.n y143.c), (.int .i64 (r41.1.n : Int))] [(.int .i64)] fun r145 =>
 C.call n_spec_P6Pick [(.slice x0.a x0.n x0.c), (.int .i64 8)] [(.int .i64)] fun r150 =>
 C.call n_impl_SpoilPack [(.slice r41.1.a r41.1.n r41.1.c), (.int .i64 r145), (.int .i64 r150)] [.slice, (.int .i64)] fun r151 =>
 C.call n_impl_ReadPack [(.slice r151.1.a r151.1.n r151.1.c)] [.agg, (.int .i64)] fun r156 =>
 C.new ty_impl_Store (.agg (#[(.slice none 0 0)])) fun b23 =>
 C.st 1 (Addr.mk b23 0 none) (.agg r156.1) <|
 C.call n_impl_IsPack [(.slice r151.1.a r151.1.n r151.1.c)] [.bool, (.int .i64)] fun r161 =>
 C.join (TL []) (embL []) (fun s47 => C.any fun _ =>
 cond (r156.2 != 0) (
 cond (r156.2 == 8) (
 C.ret (.bool true)
 ) (
 C.ret (.bool (r156.2 == 5))
 )
 ) (
 C.sl r41.1.a r41.1.n r41.1.c 1 none (some (IntKind.wrap .i64 ((r41.1.n : Int) - 34))) none fun y199 =>
 C.call n_impl_KeyOfPack [(.slice y199.a y199.n y199.c)] [.agg, (.int .i64)] fun r200 =>
 C.new ty_impl_Key (.agg (Array.replicate 32 (.int .u8 0))) fun b27 =>
 C.st 32 (Addr.mk b27 0 none) (.agg r200.1) <|
 C.sl r151.1.a r151.1.n r151.1.c 1 none (some (IntKind.wrap .i64 ((r41.1.n : Int) - 34))) none fun y207 =>
 C.call n_impl_KeyOfPack [(.slice y207.a y207.n y207.c)] [.agg, (.int .i64)] fun r208 =>
 C.new ty_impl_Key (.agg (Array.replicate 32 (.int .u8 0))) fun b29 =>
 C.st 32 (Addr.mk b29 0 none) (.agg r208.1) <|
 C.draw <|
 cond (r200.2 == 0) (
 C.all [
 (cond (r208.2 == 0) (
 C.ld .agg 32 (Addr.mk b27 0 none) fun v218 =>
 C.ld .agg 32 (Addr.mk b29 0 none) fun v219 =>
 C.pur (eqB .eql ty_impl_Key (.tmp 218) (.tmp 219) (.agg v218) (.agg v219)) .bool fun y220 =>
 cond y220 (
 C.sl r151.1.a r151.1.n r151.1.c 1 none (some (IntKind.wrap .i64 ((r41.1.n : Int) - 34))) none fun y226 =>
 C.sl r41.1.a r41.1.n r41.1.c 1 none (some (IntKind.wrap .i64 ((r41.1.n : Int) - 34))) none fun y230 =>
 C.call n_spec_SameData [(.slice y226.a y226.n y226.c), (.slice y230.a y230.n y230.c)] [.bool] fun r231 =>
 C.ret (.bool (!r231))
 ) (
 C.ret (.bool false)
 )
 ) (
 C.ret (.bool false)
 )),
 (cond (r208.2 == 0) (
 C.ld .agg 32 (Addr.mk b29 0 none) fun v219 =>
 C.ld .agg 32 (Addr.mk b27 0 none) fun v218 =>
 C.pur (eqB .eql ty_impl_Key (.tmp 218) (.tmp 219) (.agg v218) (.agg v219)) .bool fun y220 =>
 cond y220 (
 C.sl r151.1.a r151.1.n r151.1.c 1 none (some (IntKind.wrap .i64 ((r41.1.n : Int) - 34))) none fun y226 =>
 C.sl r41.1.a r41.1.n r41.1.c 1 none (some (IntKind.wrap .i64 ((r41.1.n : Int) - 34))) none fun y230 =>
 C.call n_spec_SameData [(.slice y226.a y226.n y226.c), (.slice y230.a y230.n y230.c)] [.bool] fun r231 =>
 C.ret (.bool (!r231))
 ) (
 C.ret (.bool false)
 )
 ) (
 C.ret (.bool false)
 ))]
 ) (
 C.all [
 (C.ret (.bool false)),
 (C.ret (.bool false))]
 )
 )
 ) fun jt =>
 cond (r151.2 != 0) (
 C.ret (.bool false)
 ) (
 cond ((r151.1.n : Int) != (r41.1.n : Int)) (
 C.ret (.bool false)
 ) (
 cond (r161.2 != 0) (
 C.ret (.bool false)
 ) (
 C.pur (eqB .neq ty_bool (.tmp 177) (.tmp 179) (.bool r161.1) (.bool (r156.2 == 0))) .bool fun y180 =>
 cond y180 (
 C.ret (.bool false)
 ) (
 C.call n_spec_SameData [(.slice r151.1.a r151.1.n r151.1.c), (.slice r41.1.a r41.1.n r41.1.c)] [.bool] fun r185 =>
 cond r185 (
 C.ret (.bool false)
 ) (
 jt []
 )
 )
 )
 )
 )
 ) fun jt =>
 cond (r60.2.2 == 0) (
 C.call n_impl_ReadPack [(.slice r68.1.a r68.1.n r68.1.c)] [.agg, (.int .i64)] fun r93 =>
 C.new ty_impl_Store (.agg (#[(.slice none 0 0)])) fun b17 =>
 C.st 1 (Addr.mk b17 0 none) (.agg r93.1) <|
 C.join (TL []) (embL []) (fun s26 => C.any fun _ =>
 C.loop (TL [(.int .i64)]) (embL [(.int .i64)]) [(.int .i64 0)] fun s27 ct27 => C.any fun _ =>
 C.ld .slice 1 ((Addr.mk b12 0 none).add 0) fun v124 =>
 cond (decide (s27 < (v124.n : Int))) (
 C.draw <|
 C.ld .slice 1 ((Addr.mk b12 0 none).add 0) fun v130 =>
 C.ix v130.a v130.n 2 s27 fun p132 =>
 C.ld .agg 2 p132 fun v133 =>
 C.ld .slice 1 ((Addr.mk b5 0 none).add 0) fun v135 =>
 C.ix v135.a v135.n 2 s27 fun p137 =>
 C.ld .agg 2 p137 fun v138 =>
 C.call n_spec_SameBlob [(.agg v133), (.agg v138)] [.bool] fun r139 =>
 C.chk [⟨6, 1, ((Addr.mk b5 0 none).add 0), .slice, v135⟩, ⟨1, 1, ((Addr.mk b12 0 none).add 0), .slice, v130⟩] <|
 cond (!r139) (
 C.ret (.bool false)
 ) (
 ct27 [(.int .i64 (IntKind.wrap .i64 (s27 + 1)))]
 )
 ) (
 jt []
 )
 ) fun jt1 =>
 cond (decide (r60.2.1 > r48)) (
 C.ret (.bool false)
 ) (
 cond (decide (r60.2.1 < 4)) (
 C.ret (.bool false)
 ) (
 C.ld .slice 1 ((Addr.mk b12 0 none).add 0) fun v105 =>
 C.ld .slice 1 ((Addr.mk b5 0 none).add 0) fun v108 =>
 cond (decide ((v105.n : Int) > (v108.n : Int))) (
 C.ret (.bool false)
 ) (
 cond (r93.2 != 0) (
 C.ret (.bool false)
 ) (
 C.ld .agg 1 (Addr.mk b17 0 none) fun v117 =>
 C.ld .agg 1 (Addr.mk b12 0 none) fun v118 =>
 C.call n_spec_SameStore [(.agg v117), (.agg v118)] [.bool] fun r119 =>
 cond (!r119) (
 C.ret (.bool false)
 ) (
 jt1 []
 )
 )
 )
 )
 )
 ) (
 jt []
 )
 ) fun jt =>
 cond (r41.2 != 0) (
 C.ret (.bool false)
 ) (
 cond (r53.2 == 0) (
 C.ret (.bool false)
 ) (
 C.pur (eqB .neq ty_bool (.tmp 79) (.tmp 81) (.bool (r60.2.2 == 0)) (.bool (decide (r48 ≥ 4)))) .bool fun y82 =>
 cond y82 (
 C.ret (.bool false)
 ) (
 cond (r68.2 != r60.2.2) (
 C.ret (.bool false)
 ) (
 jt []
 )
 )
 )
 )
 ) fun jt =>
 C.call n_laws_f6big [(.slice x0.a x0.n x0.c)] [.bool] fun r32 =>
 cond r32 (
 C.ret (.bool true)
 ) (
 C.call n_laws_f6big [(.slice x1.a x1.n x1.c)] [.bool] fun r35 =>
 cond r35 (
 C.ret (.bool true)
 ) (
 jt []
 )
 )
theorem laws_FnTorn_eq (C : Comb) (x0 : Sl) (x1 : Sl) : fT C Tryz.prog ⟨[(17, [(19, (.int .i64))])], [(108, []), (264, []), (363, []), (270, []), (558, [])], [19, 31], []⟩ n_laws_FnTorn [(.slice x0.a x0.n x0.c), (.slice x1.a x1.n x1.c)] = laws_FnTorn C x0 x1 := by kernel_rfl
theorem laws_FnTorn_calls {R : Value → World → Prop} {w : World} (x0 : Sl) (x1 : Sl) (h : (laws_FnTorn (real Tryz.prog R) x0 x1 : World → Prop) w) :
    Calls Tryz.prog n_laws_FnTorn [(.slice x0.a x0.n x0.c), (.slice x1.a x1.n x1.c)].toArray w fun e w' => ∃ v, e = .returned v ∧ R v w' := fT_sound mixed ⟨[(17, [(19, (.int .i64))])], [(108, []), (264, []), (363, []), (270, []), (558, [])], [19, 31], []⟩ (by rw [laws_FnTorn_eq]; exact h)

def laws_f6big (C : Comb) (x0 : Sl) : C.St :=
 C.ret (.bool (decide ((x0.n : Int) > 4096)))
theorem laws_f6big_eq (C : Comb) (x0 : Sl) : fT C Tryz.prog ⟨[], [], [], []⟩ n_laws_f6big [(.slice x0.a x0.n x0.c)] = laws_f6big C x0 := by kernel_rfl
theorem laws_f6big_calls {R : Value → World → Prop} {w : World} (x0 : Sl) (h : (laws_f6big (real Tryz.prog R) x0 : World → Prop) w) :
    Calls Tryz.prog n_laws_f6big [(.slice x0.a x0.n x0.c)].toArray w fun e w' => ∃ v, e = .returned v ∧ R v w' := fT_sound mixed ⟨[], [], [], []⟩ (by rw [laws_f6big_eq]; exact h)

def spec_P6Alike (C : Comb) (x0 : Sl) : C.St :=
 C.new ty_impl_Store (.agg (#[(.slice none 0 0)])) fun b2 =>
 C.call n_spec_l00From [(.slice x0.a x0.n x0.c)] [.ptr] fun r4 =>
 C.call n_spec_l06Store [(.pointer (some r4))] [.agg] fun r5 =>
 C.st 1 (Addr.mk b2 0 none) (.agg r5) <|
 C.ld .agg 1 (Addr.mk b2 0 none) fun z4 =>
 C.ret (.agg z4)
theorem spec_P6Alike_eq (C : Comb) (x0 : Sl) : fT C Tryz.prog ⟨[], [], [], []⟩ n_spec_P6Alike [(.slice x0.a x0.n x0.c)] = spec_P6Alike C x0 := by kernel_rfl
theorem spec_P6Alike_calls {R : Value → World → Prop} {w : World} (x0 : Sl) (h : (spec_P6Alike (real Tryz.prog R) x0 : World → Prop) w) :
    Calls Tryz.prog n_spec_P6Alike [(.slice x0.a x0.n x0.c)].toArray w fun e w' => ∃ v, e = .returned v ∧ R v w' := fT_sound mixed ⟨[], [], [], []⟩ (by rw [spec_P6Alike_eq]; exact h)

def spec_PackStore (C : Comb) (x0 : Array Value) : C.St :=
 C.new ty_impl_Store (.agg x0) fun b1 =>
 C.call n_spec_l05Open [(.pointer (some (Addr.mk b1 0 none)))] [.optr, .bool] fun r7 =>
 cond (!r7.2) (
 C.sem (Instr.buildSlice ty_sl_uint8 0 #[]) .slice fun y12 =>
 C.ret (.tuple #[(.slice y12.a y12.n y12.c), (.int .i64 1)])
 ) (
 C.call n_spec_l06Pack [(.pointer r7.1)] [.slice] fun r14 =>
 C.ret (.tuple #[(.slice r14.a r14.n r14.c), (.int .i64 0)])
 )
theorem spec_PackStore_eq (C : Comb) (x0 : Array Value) : fT C Tryz.prog ⟨[], [], [], []⟩ n_spec_PackStore [(.agg x0)] = spec_PackStore C x0 := by kernel_rfl
theorem spec_PackStore_calls {R : Value → World → Prop} {w : World} (x0 : Array Value) (h : (spec_PackStore (real Tryz.prog R) x0 : World → Prop) w) :
    Calls Tryz.prog n_spec_PackStore [(.agg x0)].toArray w fun e w' => ∃ v, e = .returned v ∧ R v w' := fT_sound mixed ⟨[], [], [], []⟩ (by rw [spec_PackStore_eq]; exact h)

def spec_P6Pick (C : Comb) (x0 : Sl) (x1 : Int) : C.St :=
 C.call n_spec_l00From [(.slice x0.a x0.n x0.c)] [.ptr] fun r6 =>
 C.call n_ptr_spec_l00Src_pick [(.pointer (some r6)), (.int .i64 x1)] [(.int .i64)] fun r8 =>
 C.ret (.int .i64 r8)
theorem spec_P6Pick_eq (C : Comb) (x0 : Sl) (x1 : Int) : fT C Tryz.prog ⟨[], [], [], []⟩ n_spec_P6Pick [(.slice x0.a x0.n x0.c), (.int .i64 x1)] = spec_P6Pick C x0 x1 := by kernel_rfl
theorem spec_P6Pick_calls {R : Value → World → Prop} {w : World} (x0 : Sl) (x1 : Int) (h : (spec_P6Pick (real Tryz.prog R) x0 x1 : World → Prop) w) :
    Calls Tryz.prog n_spec_P6Pick [(.slice x0.a x0.n x0.c), (.int .i64 x1)].toArray w fun e w' => ∃ v, e = .returned v ∧ R v w' := fT_sound mixed ⟨[], [], [], []⟩ (by rw [spec_P6Pick_eq]; exact h)

def impl_ReadPack (C : Comb) (x0 : Sl) : C.St :=
 C.new ty_impl_Store (.agg (#[(.slice none 0 0)])) fun b2 =>
 C.call n_impl_readPack [(.slice x0.a x0.n x0.c)] [.optr, (.int .i64)] fun r8 =>
 cond (r8.2 != 0) (
 C.pur (Instr.build ty_impl_Store #[]) .agg fun y13 =>
 C.st 1 (Addr.mk b2 0 none) (.agg y13) <|
 C.ld .agg 1 (Addr.mk b2 0 none) fun z4 =>
 C.ret (.tuple #[(.agg z4), (.int .i64 r8.2)])
 ) (
 C.call n_ptr_impl_scan_store [(.pointer r8.1)] [.agg] fun r16 =>
 C.st 1 (Addr.mk b2 0 none) (.agg r16) <|
 C.ld .agg 1 (Addr.mk b2 0 none) fun z6 =>
 C.ret (.tuple #[(.agg z6), (.int .i64 0)])
 )
theorem impl_ReadPack_eq (C : Comb) (x0 : Sl) : fT C Tryz.prog ⟨[], [], [], []⟩ n_impl_ReadPack [(.slice x0.a x0.n x0.c)] = impl_ReadPack C x0 := by kernel_rfl
theorem impl_ReadPack_calls {R : Value → World → Prop} {w : World} (x0 : Sl) (h : (impl_ReadPack (real Tryz.prog R) x0 : World → Prop) w) :
    Calls Tryz.prog n_impl_ReadPack [(.slice x0.a x0.n x0.c)].toArray w fun e w' => ∃ v, e = .returned v ∧ R v w' := fT_sound mixed ⟨[], [], [], []⟩ (by rw [impl_ReadPack_eq]; exact h)

def impl_ScanPack (C : Comb) (x0 : Sl) : C.St :=
 C.new ty_impl_Store (.agg (#[(.slice none 0 0)])) fun b2 =>
 C.call n_impl_scanPack [(.slice x0.a x0.n x0.c)] [.optr, (.int .i64)] fun r9 =>
 cond (r9.2 != 0) (
 C.pur (Instr.build ty_impl_Store #[]) .agg fun y14 =>
 C.st 1 (Addr.mk b2 0 none) (.agg y14) <|
 C.ld .agg 1 (Addr.mk b2 0 none) fun z4 =>
 C.ret (.tuple #[(.agg z4), (.int .i64 0), (.int .i64 r9.2)])
 ) (
 C.draw <|
 dpT C r9.1 fun a5 =>
 C.ld (.int .i64) 1 (a5.add 1) fun v21 =>
 C.call n_ptr_impl_scan_store [(.pointer r9.1)] [.agg] fun r17 =>
 C.chk [⟨5, 1, (a5.add 1), (.int .i64), v21⟩] <|
 C.st 1 (Addr.mk b2 0 none) (.agg r17) <|
 C.chk [⟨5, 1, (a5.add 1), (.int .i64), v21⟩] <|
 C.ld .agg 1 (Addr.mk b2 0 none) fun z8 =>
 C.ret (.tuple #[(.agg z8), (.int .i64 v21), (.int .i64 0)])
 )
theorem impl_ScanPack_eq (C : Comb) (x0 : Sl) : fT C Tryz.prog ⟨[], [], [4], []⟩ n_impl_ScanPack [(.slice x0.a x0.n x0.c)] = impl_ScanPack C x0 := by kernel_rfl
theorem impl_ScanPack_calls {R : Value → World → Prop} {w : World} (x0 : Sl) (h : (impl_ScanPack (real Tryz.prog R) x0 : World → Prop) w) :
    Calls Tryz.prog n_impl_ScanPack [(.slice x0.a x0.n x0.c)].toArray w fun e w' => ∃ v, e = .returned v ∧ R v w' := fT_sound mixed ⟨[], [], [4], []⟩ (by rw [impl_ScanPack_eq]; exact h)

def impl_MendPack (C : Comb) (x0 : Sl) : C.St :=
 C.call n_impl_scanPack [(.slice x0.a x0.n x0.c)] [.optr, (.int .i64)] fun r8 =>
 cond (r8.2 != 0) (
 C.ret (.tuple #[(.slice none 0 0), (.int .i64 r8.2)])
 ) (
 C.call n_ptr_impl_scan_store [(.pointer r8.1)] [.agg] fun r15 =>
 C.call n_impl_pack [(.agg r15)] [.slice] fun r16 =>
 C.ret (.tuple #[(.slice r16.a r16.n r16.c), (.int .i64 0)])
 )
theorem impl_MendPack_eq (C : Comb) (x0 : Sl) : fT C Tryz.prog ⟨[], [], [], []⟩ n_impl_MendPack [(.slice x0.a x0.n x0.c)] = impl_MendPack C x0 := by kernel_rfl
theorem impl_MendPack_calls {R : Value → World → Prop} {w : World} (x0 : Sl) (h : (impl_MendPack (real Tryz.prog R) x0 : World → Prop) w) :
    Calls Tryz.prog n_impl_MendPack [(.slice x0.a x0.n x0.c)].toArray w fun e w' => ∃ v, e = .returned v ∧ R v w' := fT_sound mixed ⟨[], [], [], []⟩ (by rw [impl_MendPack_eq]; exact h)

def spec_SameStore (C : Comb) (x0 : Array Value) (x1 : Array Value) : C.St :=
 C.new ty_impl_Store (.agg x0) fun b2 =>
 C.new ty_impl_Store (.agg x1) fun b3 =>
 C.ld .slice 1 ((Addr.mk b2 0 none).add 0) fun v7 =>
 C.ld .slice 1 ((Addr.mk b3 0 none).add 0) fun v10 =>
 cond ((v7.n : Int) != (v10.n : Int)) (
 C.ret (.bool false)
 ) (
 C.loop (TL [(.int .i64)]) (embL [(.int .i64)]) [(.int .i64 0)] fun s5 ct5 => C.any fun _ =>
 C.ld .slice 1 ((Addr.mk b2 0 none).add 0) fun v15 =>
 cond (decide (s5 < (v15.n : Int))) (
 C.draw <|
 C.ld .slice 1 ((Addr.mk b2 0 none).add 0) fun v21 =>
 C.ix v21.a v21.n 2 s5 fun p23 =>
 C.ld .slice 1 ((Addr.mk b3 0 none).add 0) fun v25 =>
 C.ix v25.a v25.n 2 s5 fun p27 =>
 C.call n_spec_l05SameBlob [(.pointer (some p23)), (.pointer (some p27))] [.bool] fun r28 =>
 C.chk [⟨5, 1, ((Addr.mk b3 0 none).add 0), .slice, v25⟩, ⟨1, 1, ((Addr.mk b2 0 none).add 0), .slice, v21⟩] <|
 cond (!r28) (
 C.ret (.bool false)
 ) (
 ct5 [(.int .i64 (IntKind.wrap .i64 (s5 + 1)))]
 )
 ) (
 C.ret (.bool true)
 )
 )
theorem spec_SameStore_eq (C : Comb) (x0 : Array Value) (x1 : Array Value) : fT C Tryz.prog ⟨[(4, [(5, (.int .i64))])], [], [6], []⟩ n_spec_SameStore [(.agg x0), (.agg x1)] = spec_SameStore C x0 x1 := by kernel_rfl
theorem spec_SameStore_calls {R : Value → World → Prop} {w : World} (x0 : Array Value) (x1 : Array Value) (h : (spec_SameStore (real Tryz.prog R) x0 x1 : World → Prop) w) :
    Calls Tryz.prog n_spec_SameStore [(.agg x0), (.agg x1)].toArray w fun e w' => ∃ v, e = .returned v ∧ R v w' := fT_sound mixed ⟨[(4, [(5, (.int .i64))])], [], [6], []⟩ (by rw [spec_SameStore_eq]; exact h)

def spec_SameBlob (C : Comb) (x0 : Array Value) (x1 : Array Value) : C.St :=
 C.new ty_impl_Blob (.agg x0) fun b2 =>
 C.new ty_impl_Blob (.agg x1) fun b3 =>
 C.call n_spec_l05SameBlob [(.pointer (some (Addr.mk b2 0 none))), (.pointer (some (Addr.mk b3 0 none)))] [.bool] fun r5 =>
 C.ret (.bool r5)
theorem spec_SameBlob_eq (C : Comb) (x0 : Array Value) (x1 : Array Value) : fT C Tryz.prog ⟨[], [], [], []⟩ n_spec_SameBlob [(.agg x0), (.agg x1)] = spec_SameBlob C x0 x1 := by kernel_rfl
theorem spec_SameBlob_calls {R : Value → World → Prop} {w : World} (x0 : Array Value) (x1 : Array Value) (h : (spec_SameBlob (real Tryz.prog R) x0 x1 : World → Prop) w) :
    Calls Tryz.prog n_spec_SameBlob [(.agg x0), (.agg x1)].toArray w fun e w' => ∃ v, e = .returned v ∧ R v w' := fT_sound mixed ⟨[], [], [], []⟩ (by rw [spec_SameBlob_eq]; exact h)

def impl_SpoilPack (C : Comb) (x0 : Sl) (x1 : Int) (x2 : Int) : C.St :=
 C.join (TL []) (embL []) (fun s4 => C.any fun _ =>
 C.call n_slices_Clone_sl_byte_byte [(.slice x0.a x0.n x0.c)] [.slice] fun r26 =>
 C.draw <|
 C.ix r26.a r26.n 1 x1 fun p29 =>
 C.ld (.int .u8) 1 p29 fun v30 =>
 C.pur (eqB .shl ty_uint8 (.const (.int .u8 1)) (.tmp 31) (.int .u8 1) (.int .i64 x2)) (.int .u8) fun y32 =>
 C.ix r26.a r26.n 1 x1 fun p34 =>
 C.st 1 p34 (.int .u8 (bitsI .xor .u8 v30 y32)) <|
 C.ret (.tuple #[(.slice r26.a r26.n r26.c), (.int .i64 0)])
 ) fun jt =>
 cond (decide ((x0.n : Int) > 140000)) (
 C.ret (.tuple #[(.slice none 0 0), (.int .i64 3)])
 ) (
 C.call n_impl_size_byte [(.slice x0.a x0.n x0.c)] [(.int .i64)] fun r16 =>
 C.call n_impl_within [(.int .i64 x1), (.int .i64 0), (.int .i64 (IntKind.wrap .i64 (r16 - 1)))] [.bool] fun r18 =>
 cond (!r18) (
 C.ret (.tuple #[(.slice none 0 0), (.int .i64 2)])
 ) (
 C.call n_impl_within [(.int .i64 x2), (.int .i64 0), (.int .i64 7)] [.bool] fun r22 =>
 cond (!r22) (
 C.ret (.tuple #[(.slice none 0 0), (.int .i64 2)])
 ) (
 jt []
 )
 )
 )
theorem impl_SpoilPack_eq (C : Comb) (x0 : Sl) (x1 : Int) (x2 : Int) : fT C Tryz.prog ⟨[], [(5, [])], [6], []⟩ n_impl_SpoilPack [(.slice x0.a x0.n x0.c), (.int .i64 x1), (.int .i64 x2)] = impl_SpoilPack C x0 x1 x2 := by kernel_rfl
theorem impl_SpoilPack_calls {R : Value → World → Prop} {w : World} (x0 : Sl) (x1 : Int) (x2 : Int) (h : (impl_SpoilPack (real Tryz.prog R) x0 x1 x2 : World → Prop) w) :
    Calls Tryz.prog n_impl_SpoilPack [(.slice x0.a x0.n x0.c), (.int .i64 x1), (.int .i64 x2)].toArray w fun e w' => ∃ v, e = .returned v ∧ R v w' := fT_sound mixed ⟨[], [(5, [])], [6], []⟩ (by rw [impl_SpoilPack_eq]; exact h)

def impl_IsPack (C : Comb) (x0 : Sl) : C.St :=
 C.call n_impl_readPack [(.slice x0.a x0.n x0.c)] [.optr, (.int .i64)] fun r8 =>
 cond (r8.2 == 3) (
 C.ret (.tuple #[(.bool false), (.int .i64 3)])
 ) (
 C.ret (.tuple #[(.bool (r8.2 == 0)), (.int .i64 0)])
 )
theorem impl_IsPack_eq (C : Comb) (x0 : Sl) : fT C Tryz.prog ⟨[], [], [], []⟩ n_impl_IsPack [(.slice x0.a x0.n x0.c)] = impl_IsPack C x0 := by kernel_rfl
theorem impl_IsPack_calls {R : Value → World → Prop} {w : World} (x0 : Sl) (h : (impl_IsPack (real Tryz.prog R) x0 : World → Prop) w) :
    Calls Tryz.prog n_impl_IsPack [(.slice x0.a x0.n x0.c)].toArray w fun e w' => ∃ v, e = .returned v ∧ R v w' := fT_sound mixed ⟨[], [], [], []⟩ (by rw [impl_IsPack_eq]; exact h)

def spec_SameData (C : Comb) (x0 : Sl) (x1 : Sl) : C.St :=
 C.call n_spec_l01Bytes [(.slice x0.a x0.n x0.c), (.slice x1.a x1.n x1.c)] [.bool] fun r7 =>
 C.ret (.bool r7)
theorem spec_SameData_eq (C : Comb) (x0 : Sl) (x1 : Sl) : fT C Tryz.prog ⟨[], [], [], []⟩ n_spec_SameData [(.slice x0.a x0.n x0.c), (.slice x1.a x1.n x1.c)] = spec_SameData C x0 x1 := by kernel_rfl
theorem spec_SameData_calls {R : Value → World → Prop} {w : World} (x0 : Sl) (x1 : Sl) (h : (spec_SameData (real Tryz.prog R) x0 x1 : World → Prop) w) :
    Calls Tryz.prog n_spec_SameData [(.slice x0.a x0.n x0.c), (.slice x1.a x1.n x1.c)].toArray w fun e w' => ∃ v, e = .returned v ∧ R v w' := fT_sound mixed ⟨[], [], [], []⟩ (by rw [spec_SameData_eq]; exact h)

def impl_KeyOfPack (C : Comb) (x0 : Sl) : C.St :=
 C.new ty_impl_Key (.agg (Array.replicate 32 (.int .u8 0))) fun b2 =>
 cond (decide ((x0.n : Int) > 140000)) (
 C.st 32 (Addr.mk b2 0 none) (.agg (Array.replicate 32 (.int .u8 0))) <|
 C.ld .agg 32 (Addr.mk b2 0 none) fun z2 =>
 C.ret (.tuple #[(.agg z2), (.int .i64 3)])
 ) (
 C.call n_impl_keyOfPack [(.slice x0.a x0.n x0.c)] [.agg] fun r9 =>
 C.st 32 (Addr.mk b2 0 none) (.agg r9) <|
 C.ld .agg 32 (Addr.mk b2 0 none) fun z4 =>
 C.ret (.tuple #[(.agg z4), (.int .i64 0)])
 )
theorem impl_KeyOfPack_eq (C : Comb) (x0 : Sl) : fT C Tryz.prog ⟨[], [], [], []⟩ n_impl_KeyOfPack [(.slice x0.a x0.n x0.c)] = impl_KeyOfPack C x0 := by kernel_rfl
theorem impl_KeyOfPack_calls {R : Value → World → Prop} {w : World} (x0 : Sl) (h : (impl_KeyOfPack (real Tryz.prog R) x0 : World → Prop) w) :
    Calls Tryz.prog n_impl_KeyOfPack [(.slice x0.a x0.n x0.c)].toArray w fun e w' => ∃ v, e = .returned v ∧ R v w' := fT_sound mixed ⟨[], [], [], []⟩ (by rw [impl_KeyOfPack_eq]; exact h)

end Go.Proofs.YtkifkdkjljcclaaGreat
