/- Printed by a program of this claim's author: each Go function as a Lean function over abstract combinators, and the equation that says that T makes it of the loaded code. -/
import Derived.Test.YtkifkdkjljcclaaGreatProg
import Derived.Test.YtkifkdkjljcclaaGreatPkLAnc02
namespace Go.Proofs.YtkifkdkjljcclaaGreat
open Go.Sx
theorem mixed : Tryz.prog.follows .mixedOrders = true := by kernel_rfl

abbrev n_laws_FnAncestors : Nat := 4
abbrev n_laws_a2Long : Nat := 23
abbrev n_spec_A2Book : Nat := 24
abbrev n_impl_HeadsOf : Nat := 25
abbrev n_laws_a2At : Nat := 26
abbrev n_spec_CommitKey : Nat := 27
abbrev n_impl_AncestorsOf : Nat := 28
abbrev n_impl_BasesOf : Nat := 29
abbrev n_impl_IsAncestor : Nat := 30
abbrev n_impl_WayTo : Nat := 31
abbrev n_laws_a2Has : Nat := 32
abbrev n_spec_SameKeys : Nat := 33
abbrev n_spec_AncestorsOf : Nat := 34
abbrev n_spec_CompareKeys : Nat := 35
abbrev n_spec_IsAncestor : Nat := 36
abbrev n_spec_FindCommit : Nat := 37
abbrev n_impl_ValidCommit : Nat := 57
abbrev n_spec_MapKey : Nat := 89
abbrev n_spec_l00From : Nat := 101
abbrev n_ptr_spec_l00Src_pick : Nat := 104
abbrev n_impl_within : Nat := 110
abbrev n_impl_size_byte : Nat := 111
abbrev n_spec_l07Drawn : Nat := 115
abbrev n_impl_open : Nat := 116
abbrev n_impl_sorted : Nat := 117
abbrev n_slices_DeleteFunc_sl_impl_Key_impl_Key : Nat := 118
abbrev n_slices_Clone_sl_impl_Key_impl_Key : Nat := 119
abbrev n_impl_HeadsOf_1 : Nat := 120
abbrev n_slices_ContainsFunc_sl_impl_Commit_impl_Commit : Nat := 121
abbrev n_impl_HeadsOf_1_1 : Nat := 122
abbrev n_slices_Contains_sl_impl_Key_impl_Key : Nat := 123
abbrev n_spec_l07Ok : Nat := 124
abbrev n_spec_l07Key : Nat := 125
abbrev n_ptr_impl_ledger_ancestors : Nat := 126
abbrev n_ptr_impl_ledger_bases : Nat := 127
abbrev n_ptr_impl_ledger_isAncestor : Nat := 128
abbrev n_slices_CompareFunc_sl_impl_Key_sl_impl_Key_impl_Key_impl_Key : Nat := 129
abbrev n_impl_compareKeys : Nat := 130
abbrev n_spec_l03Lists : Nat := 131
abbrev n_spec_l07At : Nat := 132
abbrev n_spec_l07Above : Nat := 133
abbrev n_spec_l01Compare : Nat := 134
abbrev n_spec_l07Two : Nat := 135
abbrev n_spec_l01Has : Nat := 136
abbrev n_ptr_spec_l00Src_one : Nat := 138
abbrev n_impl_newLedger : Nat := 153
abbrev n_impl_Commit_data : Nat := 158
abbrev n_impl_Commit_key : Nat := 160
abbrev n_spec_l01Hash : Nat := 161
abbrev n_ptr_impl_ledger_at : Nat := 162
abbrev n_spec_l07Map : Nat := 164
abbrev n_impl_ValidEntries : Nat := 165
abbrev n_spec_l07Book : Nat := 167
abbrev n_spec_l07Commit : Nat := 169
abbrev n_impl_MapNode_bytes : Nat := 190
abbrev n_impl_treeOf : Nat := 192
abbrev n_ptr_impl_tree_key : Nat := 193
abbrev n_spec_l04Ok : Nat := 194
abbrev n_spec_l04Nodes : Nat := 195
abbrev n_spec_l04Bytes : Nat := 197
abbrev n_ptr_spec_l00Src_next : Nat := 219
abbrev n_impl_appendLittle : Nat := 224
abbrev n_impl_hash : Nat := 225
abbrev n_ptr_spec_l00Src_text : Nat := 226
abbrev n_ptr_impl_ledger_find : Nat := 227
abbrev n_slices_SortFunc_sl_impl_Key_impl_Key : Nat := 228
abbrev n_slices_Compact_sl_impl_Key_impl_Key : Nat := 229
abbrev n_slices_IndexFunc_sl_impl_Key_impl_Key : Nat := 230
abbrev n_slices_IndexFunc_sl_impl_Commit_impl_Commit : Nat := 231
abbrev n_slices_Index_sl_impl_Key_impl_Key : Nat := 232
abbrev n_spec_l00In : Nat := 233
abbrev n_spec_l07Data : Nat := 234
abbrev n_ptr_impl_ledger_bases_1 : Nat := 235
abbrev n_ptr_impl_ledger_bases_2 : Nat := 236
abbrev n_slices_ContainsFunc_sl_impl_Key_impl_Key : Nat := 237
abbrev n_ptr_impl_ledger_bases_2_1 : Nat := 238
abbrev n_slices_Compare_sl_byte_byte : Nat := 239
abbrev n_spec_l07Find : Nat := 240
abbrev n_spec_l07Keys : Nat := 241
abbrev n_spec_l01Sort : Nat := 242
abbrev n_ptr_impl_ledger_number : Nat := 258
abbrev n_spec_l01End : Nat := 261
abbrev n_spec_l01Start : Nat := 262
abbrev n_impl_ValidEntry : Nat := 263
abbrev n_spec_l07Number : Nat := 266
abbrev n_spec_l07Copy : Nat := 267
abbrev n_impl_EmptyMapKey : Nat := 273
abbrev n_spec_l04Empty : Nat := 277
abbrev n_slices_Concat_sl_byte_byte : Nat := 282
abbrev n_impl_grow : Nat := 284
abbrev n_impl_MapNode_key : Nat := 285
abbrev n_spec_l04Entry : Nat := 286
abbrev n_spec_l04Top : Nat := 287
abbrev n_spec_l04NodeKey : Nat := 288
abbrev n_impl_littleNumber : Nat := 305
abbrev n_impl_blocks : Nat := 309
abbrev n_impl_padding : Nat := 310
abbrev n_impl_keyOf : Nat := 311
abbrev n_impl_mixed : Nat := 312
abbrev n_impl_StartState : Nat := 313
abbrev n_spec_l07Add : Nat := 316
abbrev n_cmp_Compare_byte : Nat := 317
abbrev n_spec_l01Xor : Nat := 318
abbrev n_spec_l01Padded : Nat := 326
abbrev n_spec_l01Mix : Nat := 327
abbrev n_spec_l01Block : Nat := 328
abbrev n_impl_isName : Nat := 329
abbrev n_spec_l00Max : Nat := 330
abbrev n_slices_Grow_sl_byte_byte : Nat := 335
abbrev n_spec_l04Name : Nat := 339
abbrev n_spec_l04Priority : Nat := 340
abbrev n_impl_MixBlock : Nat := 346
abbrev n_cmp_isNaN_byte : Nat := 356
abbrev n_spec_l01Turn : Nat := 358
abbrev n_math_bits_RotateLeft32 : Nat := 363
abbrev ty_x : Nat := 0
abbrev ty_int64 : Nat := 2
abbrev ty_int : Nat := 3
abbrev ty_bool : Nat := 4
abbrev ty_uint8 : Nat := 5
abbrev ty_string : Nat := 9
abbrev ty_sl_uint8 : Nat := 22
abbrev ty_impl_Blob : Nat := 39
abbrev ty_arr32_uint8 : Nat := 44
abbrev ty_impl_Key : Nat := 45
abbrev ty_sl_impl_Commit : Nat := 48
abbrev ty_sl_sl_impl_Entry : Nat := 49
abbrev ty_impl_Book : Nat := 51
abbrev ty_sl_impl_Key : Nat := 53
abbrev ty_impl_Commit : Nat := 59
abbrev ty_impl_Lease : Nat := 73
abbrev ty_sl_impl_Entry : Nat := 85
abbrev ty_sl_arr32_uint8 : Nat := 92
abbrev ty_sl_sl_uint8 : Nat := 117
abbrev ty_ptr_impl_ledger : Nat := 147
abbrev ty_impl_ledger : Nat := 153
abbrev ty_map_impl_Key_sl_impl_Key : Nat := 162
abbrev ty_spec_l05Store : Nat := 176
abbrev ty_map_impl_Key_bool : Nat := 178
abbrev ty_impl_shop : Nat := 187
abbrev ty_sl_impl_MapNode : Nat := 229
abbrev ty_impl_Entry : Nat := 232
abbrev ty_impl_MapNode : Nat := 234
abbrev ty_ptr_impl_tree : Nat := 236
abbrev ty_uint64 : Nat := 263
abbrev ty_spec_l00Src : Nat := 265
abbrev ty_sl_string : Nat := 280
abbrev ty_uint32 : Nat := 306
abbrev ty_arr8_uint32 : Nat := 307
abbrev ty_impl_tree : Nat := 329
def laws_FnAncestors (C : Comb) (x0 : Sl) (x1 : Sl) : C.St :=
 C.call n_laws_a2Long [(.slice x0.a x0.n x0.c), (.slice x1.a x1.n x1.c)] [.bool] fun r42 =>
 cond r42 (
 C.ret (.bool true)
 ) (
 C.call n_spec_A2Book [(.slice x0.a x0.n x0.c)] [.agg] fun r44 =>
 C.new ty_impl_Book (.agg (#[(.slice none 0 0), (.slice none 0 0)])) fun b5 =>
 C.st 2 (Addr.mk b5 0 none) (.agg r44) <|
 C.ld .slice 1 ((Addr.mk b5 0 none).add 0) fun v46 =>
 cond ((v46.n : Int) == 0) (
 C.ld .agg 2 (Addr.mk b5 0 none) fun v50 =>
 C.call n_impl_HeadsOf [(.agg v50)] [.slice, (.int .i64)] fun r51 =>
 cond (r51.2 == 0) (
 C.ret (.bool ((r51.1.n : Int) == 0))
 ) (
 C.ret (.bool false)
 )
 ) (
 C.ld .slice 1 ((Addr.mk b5 0 none).add 0) fun v63 =>
 C.call n_laws_a2At [(.slice x1.a x1.n x1.c), (.int .i64 0), (.int .i64 (v63.n : Int))] [(.int .i64)] fun r65 =>
 C.ld .slice 1 ((Addr.mk b5 0 none).add 0) fun v68 =>
 C.call n_laws_a2At [(.slice x1.a x1.n x1.c), (.int .i64 1), (.int .i64 (v68.n : Int))] [(.int .i64)] fun r70 =>
 C.ld .slice 1 ((Addr.mk b5 0 none).add 0) fun v73 =>
 C.ix v73.a v73.n 35 r65 fun p75 =>
 C.ld .agg 35 p75 fun v76 =>
 C.call n_spec_CommitKey [(.agg v76)] [.agg, (.int .i64)] fun r77 =>
 C.new ty_impl_Key (.agg (Array.replicate 32 (.int .u8 0))) fun b10 =>
 C.st 32 (Addr.mk b10 0 none) (.agg r77.1) <|
 C.ld .slice 1 ((Addr.mk b5 0 none).add 0) fun v82 =>
 C.ix v82.a v82.n 35 r70 fun p84 =>
 C.ld .agg 35 p84 fun v85 =>
 C.call n_spec_CommitKey [(.agg v85)] [.agg, (.int .i64)] fun r86 =>
 C.new ty_impl_Key (.agg (Array.replicate 32 (.int .u8 0))) fun b12 =>
 C.st 32 (Addr.mk b12 0 none) (.agg r86.1) <|
 C.ld .agg 2 (Addr.mk b5 0 none) fun v90 =>
 C.ld .agg 32 (Addr.mk b10 0 none) fun v91 =>
 C.call n_impl_AncestorsOf [(.agg v90), (.agg v91)] [.slice, (.int .i64)] fun r92 =>
 C.ld .agg 2 (Addr.mk b5 0 none) fun v96 =>
 C.ld .agg 32 (Addr.mk b12 0 none) fun v97 =>
 C.call n_impl_AncestorsOf [(.agg v96), (.agg v97)] [.slice, (.int .i64)] fun r98 =>
 C.ld .agg 2 (Addr.mk b5 0 none) fun v102 =>
 C.ld .agg 32 (Addr.mk b10 0 none) fun v103 =>
 C.ld .agg 32 (Addr.mk b12 0 none) fun v104 =>
 C.call n_impl_BasesOf [(.agg v102), (.agg v103), (.agg v104)] [.slice, (.int .i64)] fun r105 =>
 C.ld .agg 2 (Addr.mk b5 0 none) fun v109 =>
 C.ld .agg 32 (Addr.mk b12 0 none) fun v110 =>
 C.ld .agg 32 (Addr.mk b10 0 none) fun v111 =>
 C.call n_impl_BasesOf [(.agg v109), (.agg v110), (.agg v111)] [.slice, (.int .i64)] fun r112 =>
 C.ld .agg 2 (Addr.mk b5 0 none) fun v116 =>
 C.ld .agg 32 (Addr.mk b10 0 none) fun v117 =>
 C.ld .agg 32 (Addr.mk b12 0 none) fun v118 =>
 C.call n_impl_IsAncestor [(.agg v116), (.agg v117), (.agg v118)] [.bool, (.int .i64)] fun r119 =>
 C.ld .agg 2 (Addr.mk b5 0 none) fun v123 =>
 C.ld .agg 32 (Addr.mk b10 0 none) fun v124 =>
 C.ld .agg 32 (Addr.mk b12 0 none) fun v125 =>
 C.call n_impl_WayTo [(.agg v123), (.agg v124), (.agg v125)] [.slice, (.int .i64)] fun r126 =>
 C.join (TL []) (embL []) (fun s49 => C.any fun _ =>
 C.loop (TL [(.int .i64)]) (embL [(.int .i64)]) [(.int .i64 0)] fun s50 ct50 => C.any fun _ =>
 C.ld .slice 1 ((Addr.mk b5 0 none).add 0) fun v176 =>
 C.ix v176.a v176.n 35 r65 fun p178 =>
 C.ld .slice 1 (p178.add 32) fun v180 =>
 cond (decide (s50 < (v180.n : Int))) (
 C.join (TL [.slice, (.int .i64)]) (embL [.slice, (.int .i64)]) (fun s61 => C.any fun _ =>
 cond (s61.2 != 0) (
 C.ret (.bool false)
 ) (
 C.loop (TL [(.int .i64)]) (embL [(.int .i64)]) [(.int .i64 0)] fun s62 ct62 => C.any fun _ =>
 cond (decide (s62 < (s61.1.n : Int))) (
 C.ix s61.1.a s61.1.n 32 s62 fun p210 =>
 C.ld .agg 32 p210 fun v211 =>
 C.call n_laws_a2Has [(.slice r92.1.a r92.1.n r92.1.c), (.agg v211)] [.bool] fun r212 =>
 cond (!r212) (
 C.ret (.bool false)
 ) (
 ct62 [(.int .i64 (IntKind.wrap .i64 (s62 + 1)))]
 )
 ) (
 ct50 [(.int .i64 (IntKind.wrap .i64 (s50 + 1)))]
 )
 )
 ) fun jt =>
 C.draw <|
 C.ld .agg 2 (Addr.mk b5 0 none) fun v186 =>
 C.ld .slice 1 ((Addr.mk b5 0 none).add 0) fun v188 =>
 C.ix v188.a v188.n 35 r65 fun p190 =>
 C.ld .slice 1 (p190.add 32) fun v192 =>
 C.ix v192.a v192.n 32 s50 fun p194 =>
 C.ld .agg 32 p194 fun v195 =>
 C.call n_spec_AncestorsOf [(.agg v186), (.agg v195)] [.slice, (.int .i64)] fun r196 =>
 C.chk [⟨6, 1, (p190.add 32), .slice, v192⟩, ⟨2, 1, ((Addr.mk b5 0 none).add 0), .slice, v188⟩] <|
 jt [(.slice r196.1.a r196.1.n r196.1.c), (.int .i64 r196.2)]
 ) (
 C.loop (TL [(.int .i64), (.int .i64)]) (embL [(.int .i64), (.int .i64)]) [(.int .i64 0), (.int .i64 0)] fun s66 ct66 => C.any fun _ =>
 cond (decide (s66.2 < (r92.1.n : Int))) (
 C.join (TL []) (embL []) (fun s75 => C.any fun _ =>
 C.ix r92.1.a r92.1.n 32 s66.2 fun p238 =>
 C.ld .agg 32 p238 fun v239 =>
 C.call n_laws_a2Has [(.slice r98.1.a r98.1.n r98.1.c), (.agg v239)] [.bool] fun r240 =>
 cond (!r240) (
 ct66 [(.int .i64 s66.1), (.int .i64 (IntKind.wrap .i64 (s66.2 + 1)))]
 ) (
 C.loop (TL [.bool, (.int .i64)]) (embL [.bool, (.int .i64)]) [(.bool false), (.int .i64 0)] fun s79 ct79 => C.any fun _ =>
 cond (decide (s79.2 < (r105.1.n : Int))) (
 C.join (TL [.bool, (.int .i64)]) (embL [.bool, (.int .i64)]) (fun s86 => C.any fun _ =>
 cond (s86.2 != 0) (
 C.ret (.bool false)
 ) (
 C.join (TL [.bool]) (embL [.bool]) (fun s87 => C.any fun _ =>
 C.draw <|
 cond s86.1 (
 C.ix r92.1.a r92.1.n 32 s66.2 fun p273 =>
 C.ix r105.1.a r105.1.n 32 s79.2 fun p277 =>
 C.all [
 (C.ld .agg 32 p273 fun v274 =>
 C.ld .agg 32 p277 fun v278 =>
 C.pur (eqB .neq ty_impl_Key (.tmp 274) (.tmp 278) (.agg v274) (.agg v278)) .bool fun y279 =>
 cond y279 (
 C.ix r92.1.a r92.1.n 32 s66.2 fun p285 =>
 C.ld .agg 32 p285 fun v286 =>
 C.call n_laws_a2Has [(.slice r105.1.a r105.1.n r105.1.c), (.agg v286)] [.bool] fun r287 =>
 cond r287 (
 C.ret (.bool false)
 ) (
 ct79 [(.bool s87), (.int .i64 (IntKind.wrap .i64 (s79.2 + 1)))]
 )
 ) (
 ct79 [(.bool s87), (.int .i64 (IntKind.wrap .i64 (s79.2 + 1)))]
 )),
 (C.ld .agg 32 p277 fun v278 =>
 C.ld .agg 32 p273 fun v274 =>
 C.pur (eqB .neq ty_impl_Key (.tmp 274) (.tmp 278) (.agg v274) (.agg v278)) .bool fun y279 =>
 cond y279 (
 C.ix r92.1.a r92.1.n 32 s66.2 fun p285 =>
 C.ld .agg 32 p285 fun v286 =>
 C.call n_laws_a2Has [(.slice r105.1.a r105.1.n r105.1.c), (.agg v286)] [.bool] fun r287 =>
 cond r287 (
 C.ret (.bool false)
 ) (
 ct79 [(.bool s87), (.int .i64 (IntKind.wrap .i64 (s79.2 + 1)))]
 )
 ) (
 ct79 [(.bool s87), (.int .i64 (IntKind.wrap .i64 (s79.2 + 1)))]
 ))]
 ) (
 C.all [
 (ct79 [(.bool s87), (.int .i64 (IntKind.wrap .i64 (s79.2 + 1)))]),
 (ct79 [(.bool s87), (.int .i64 (IntKind.wrap .i64 (s79.2 + 1)))])]
 )
 ) fun jt =>
 cond s79.1 (
 jt [(.bool true)]
 ) (
 jt [(.bool s86.1)]
 )
 )
 ) fun jt =>
 C.draw <|
 C.ld .agg 2 (Addr.mk b5 0 none) fun v251 =>
 C.ix r92.1.a r92.1.n 32 s66.2 fun p254 =>
 C.ld .agg 32 p254 fun v255 =>
 C.ix r105.1.a r105.1.n 32 s79.2 fun p258 =>
 C.ld .agg 32 p258 fun v259 =>
 C.call n_spec_IsAncestor [(.agg v251), (.agg v255), (.agg v259)] [.bool, (.int .i64)] fun r260 =>
 jt [(.bool r260.1), (.int .i64 r260.2)]
 ) (
 cond (!s79.1) (
 C.ret (.bool false)
 ) (
 ct66 [(.int .i64 (IntKind.wrap .i64 (s66.1 + 1))), (.int .i64 (IntKind.wrap .i64 (s66.2 + 1)))]
 )
 )
 )
 ) fun jt =>
 C.draw <|
 cond (decide (s66.2 > 0)) (
 C.ix r92.1.a r92.1.n 32 (IntKind.wrap .i64 (s66.2 - 1)) fun p226 =>
 C.ix r92.1.a r92.1.n 32 s66.2 fun p230 =>
 C.all [
 (C.ld .agg 32 p226 fun v227 =>
 C.ld .agg 32 p230 fun v231 =>
 C.call n_spec_CompareKeys [(.agg v227), (.agg v231)] [(.int .i64)] fun r232 =>
 cond (r232 != (-1)) (
 C.ret (.bool false)
 ) (
 jt []
 )),
 (C.ld .agg 32 p230 fun v231 =>
 C.ld .agg 32 p226 fun v227 =>
 C.call n_spec_CompareKeys [(.agg v227), (.agg v231)] [(.int .i64)] fun r232 =>
 cond (r232 != (-1)) (
 C.ret (.bool false)
 ) (
 jt []
 ))]
 ) (
 C.all [
 (jt []),
 (jt [])]
 )
 ) (
 C.join (TL []) (embL []) (fun s102 => C.any fun _ =>
 C.loop (TL [(.int .i64)]) (embL [(.int .i64)]) [(.int .i64 0)] fun s103 ct103 => C.any fun _ =>
 cond (decide (s103 < (r105.1.n : Int))) (
 C.ix r105.1.a r105.1.n 32 s103 fun p307 =>
 C.ld .agg 32 p307 fun v308 =>
 C.call n_laws_a2Has [(.slice r92.1.a r92.1.n r92.1.c), (.agg v308)] [.bool] fun r309 =>
 cond (!r309) (
 C.ret (.bool false)
 ) (
 C.ix r105.1.a r105.1.n 32 s103 fun p315 =>
 C.ld .agg 32 p315 fun v316 =>
 C.call n_laws_a2Has [(.slice r98.1.a r98.1.n r98.1.c), (.agg v316)] [.bool] fun r317 =>
 cond (!r317) (
 C.ret (.bool false)
 ) (
 ct103 [(.int .i64 (IntKind.wrap .i64 (s103 + 1)))]
 )
 )
 ) (
 cond (!r119.1) (
 C.ret (.bool (r126.2 == 4))
 ) (
 C.join (TL []) (embL []) (fun s118 => C.any fun _ =>
 C.loop (TL [(.int .i64)]) (embL [(.int .i64)]) [(.int .i64 1)] fun s119 ct119 => C.any fun _ =>
 cond (decide (s119 < (r126.1.n : Int))) (
 C.join (TL [(.int .i64), (.int .i64)]) (embL [(.int .i64), (.int .i64)]) (fun s124 => C.any fun _ =>
 C.draw <|
 cond (s124.2 != 0) (
 C.all [
 (C.all [
 (C.ret (.bool false)),
 (C.ret (.bool false))]),
 (C.ret (.bool false))]
 ) (
 C.ix r126.1.a r126.1.n 32 (IntKind.wrap .i64 (s119 - 1)) fun p375 =>
 C.all [
 (C.ld .slice 1 ((Addr.mk b5 0 none).add 0) fun v367 =>
 C.ix v367.a v367.n 35 s124.1 fun p369 =>
 C.all [
 (C.ld .slice 1 (p369.add 32) fun v371 =>
 C.ld .agg 32 p375 fun v376 =>
 C.call n_laws_a2Has [(.slice v371.a v371.n v371.c), (.agg v376)] [.bool] fun r377 =>
 cond (!r377) (
 C.ret (.bool false)
 ) (
 ct119 [(.int .i64 (IntKind.wrap .i64 (s119 + 1)))]
 )),
 (C.ld .agg 32 p375 fun v376 =>
 C.ld .slice 1 (p369.add 32) fun v371 =>
 C.call n_laws_a2Has [(.slice v371.a v371.n v371.c), (.agg v376)] [.bool] fun r377 =>
 cond (!r377) (
 C.ret (.bool false)
 ) (
 ct119 [(.int .i64 (IntKind.wrap .i64 (s119 + 1)))]
 ))]),
 (C.ld .agg 32 p375 fun v376 =>
 C.ld .slice 1 ((Addr.mk b5 0 none).add 0) fun v367 =>
 C.ix v367.a v367.n 35 s124.1 fun p369 =>
 C.ld .slice 1 (p369.add 32) fun v371 =>
 C.call n_laws_a2Has [(.slice v371.a v371.n v371.c), (.agg v376)] [.bool] fun r377 =>
 cond (!r377) (
 C.ret (.bool false)
 ) (
 ct119 [(.int .i64 (IntKind.wrap .i64 (s119 + 1)))]
 ))]
 )
 ) fun jt =>
 C.draw <|
 C.ld .agg 2 (Addr.mk b5 0 none) fun v355 =>
 C.ix r126.1.a r126.1.n 32 s119 fun p358 =>
 C.ld .agg 32 p358 fun v359 =>
 C.call n_spec_FindCommit [(.agg v355), (.agg v359)] [(.int .i64), (.int .i64)] fun r360 =>
 jt [(.int .i64 r360.1), (.int .i64 r360.2)]
 ) (
 C.ret (.bool true)
 )
 ) fun jt =>
 C.draw <|
 cond (r126.2 != 0) (
 C.ret (.bool false)
 ) (
 cond (decide ((r126.1.n : Int) < 1)) (
 C.ret (.bool false)
 ) (
 C.ix r126.1.a r126.1.n 32 0 fun p333 =>
 C.ld .agg 32 p333 fun v334 =>
 C.ld .agg 32 (Addr.mk b10 0 none) fun v335 =>
 C.pur (eqB .neq ty_impl_Key (.tmp 334) (.tmp 335) (.agg v334) (.agg v335)) .bool fun y336 =>
 cond y336 (
 C.ret (.bool false)
 ) (
 C.ix r126.1.a r126.1.n 32 (IntKind.wrap .i64 ((r126.1.n : Int) - 1)) fun p343 =>
 C.ld .agg 32 p343 fun v344 =>
 C.ld .agg 32 (Addr.mk b12 0 none) fun v345 =>
 C.pur (eqB .neq ty_impl_Key (.tmp 344) (.tmp 345) (.agg v344) (.agg v345)) .bool fun y346 =>
 cond y346 (
 C.ret (.bool false)
 ) (
 jt []
 )
 )
 )
 )
 )
 )
 ) fun jt =>
 cond (s66.1 == 0) (
 cond (decide ((r105.1.n : Int) > 0)) (
 C.ret (.bool false)
 ) (
 jt []
 )
 ) (
 jt []
 )
 )
 )
 ) fun jt =>
 cond (r77.2 != 0) (
 C.ret (.bool false)
 ) (
 cond (r86.2 != 0) (
 C.ret (.bool false)
 ) (
 cond (r92.2 != 0) (
 C.ret (.bool false)
 ) (
 cond (r98.2 != 0) (
 C.ret (.bool false)
 ) (
 cond (r105.2 != 0) (
 C.ret (.bool false)
 ) (
 cond (r112.2 != 0) (
 C.ret (.bool false)
 ) (
 cond (r119.2 != 0) (
 C.ret (.bool false)
 ) (
 C.ld .agg 32 (Addr.mk b10 0 none) fun v157 =>
 C.call n_laws_a2Has [(.slice r92.1.a r92.1.n r92.1.c), (.agg v157)] [.bool] fun r158 =>
 cond (!r158) (
 C.ret (.bool false)
 ) (
 C.ld .agg 32 (Addr.mk b10 0 none) fun v164 =>
 C.call n_laws_a2Has [(.slice r98.1.a r98.1.n r98.1.c), (.agg v164)] [.bool] fun r165 =>
 C.pur (eqB .neq ty_bool (.tmp 162) (.tmp 165) (.bool r119.1) (.bool r165)) .bool fun y166 =>
 cond y166 (
 C.ret (.bool false)
 ) (
 C.call n_spec_SameKeys [(.slice r105.1.a r105.1.n r105.1.c), (.slice r112.1.a r112.1.n r112.1.c)] [.bool] fun r171 =>
 cond (!r171) (
 C.ret (.bool false)
 ) (
 jt []
 )
 )
 )
 )
 )
 )
 )
 )
 )
 )
 )
 )
theorem laws_FnAncestors_eq (C : Comb) (x0 : Sl) (x1 : Sl) : fT C Tryz.prog ⟨[(20, [(26, (.int .i64))]), (26, [(29, (.int .i64))]), (32, [(30, (.int .i64)), (31, (.int .i64))]), (40, [(32, .bool), (33, (.int .i64))]), (53, [(36, (.int .i64))]), (62, [(37, (.int .i64))])], [(519, []), (67, [(27, .slice), (28, (.int .i64))]), (702, []), (127, [(34, .bool), (35, (.int .i64))]), (136, [(32, .bool)]), (891, []), (1041, []), (193, [(38, (.int .i64)), (39, (.int .i64))])], [22, 34, 42, 46, 64, 65], []⟩ n_laws_FnAncestors [(.slice x0.a x0.n x0.c), (.slice x1.a x1.n x1.c)] = laws_FnAncestors C x0 x1 := by kernel_rfl
theorem laws_FnAncestors_calls {R : Value → World → Prop} {w : World} (x0 : Sl) (x1 : Sl) (h : (laws_FnAncestors (real Tryz.prog R) x0 x1 : World → Prop) w) :
    Calls Tryz.prog n_laws_FnAncestors [(.slice x0.a x0.n x0.c), (.slice x1.a x1.n x1.c)].toArray w fun e w' => ∃ v, e = .returned v ∧ R v w' := fT_sound mixed ⟨[(20, [(26, (.int .i64))]), (26, [(29, (.int .i64))]), (32, [(30, (.int .i64)), (31, (.int .i64))]), (40, [(32, .bool), (33, (.int .i64))]), (53, [(36, (.int .i64))]), (62, [(37, (.int .i64))])], [(519, []), (67, [(27, .slice), (28, (.int .i64))]), (702, []), (127, [(34, .bool), (35, (.int .i64))]), (136, [(32, .bool)]), (891, []), (1041, []), (193, [(38, (.int .i64)), (39, (.int .i64))])], [22, 34, 42, 46, 64, 65], []⟩ (by rw [laws_FnAncestors_eq]; exact h)

def laws_a2Long (C : Comb) (x0 : Sl) (x1 : Sl) : C.St :=
 cond (decide ((x0.n : Int) > 3000)) (
 C.ret (.bool true)
 ) (
 C.ret (.bool (decide ((x1.n : Int) > 3000)))
 )
theorem laws_a2Long_eq (C : Comb) (x0 : Sl) (x1 : Sl) : fT C Tryz.prog ⟨[], [], [], []⟩ n_laws_a2Long [(.slice x0.a x0.n x0.c), (.slice x1.a x1.n x1.c)] = laws_a2Long C x0 x1 := by kernel_rfl
theorem laws_a2Long_calls {R : Value → World → Prop} {w : World} (x0 : Sl) (x1 : Sl) (h : (laws_a2Long (real Tryz.prog R) x0 x1 : World → Prop) w) :
    Calls Tryz.prog n_laws_a2Long [(.slice x0.a x0.n x0.c), (.slice x1.a x1.n x1.c)].toArray w fun e w' => ∃ v, e = .returned v ∧ R v w' := fT_sound mixed ⟨[], [], [], []⟩ (by rw [laws_a2Long_eq]; exact h)

def spec_A2Book (C : Comb) (x0 : Sl) : C.St :=
 C.new ty_impl_Book (.agg (#[(.slice none 0 0), (.slice none 0 0)])) fun b2 =>
 C.call n_spec_l00From [(.slice x0.a x0.n x0.c)] [.ptr] fun r4 =>
 C.call n_spec_l07Drawn [(.pointer (some r4)), (.int .i64 7)] [.agg] fun r5 =>
 C.st 2 (Addr.mk b2 0 none) (.agg r5) <|
 C.ld .agg 2 (Addr.mk b2 0 none) fun z4 =>
 C.ret (.agg z4)
theorem spec_A2Book_eq (C : Comb) (x0 : Sl) : fT C Tryz.prog ⟨[], [], [], []⟩ n_spec_A2Book [(.slice x0.a x0.n x0.c)] = spec_A2Book C x0 := by kernel_rfl
theorem spec_A2Book_calls {R : Value → World → Prop} {w : World} (x0 : Sl) (h : (spec_A2Book (real Tryz.prog R) x0 : World → Prop) w) :
    Calls Tryz.prog n_spec_A2Book [(.slice x0.a x0.n x0.c)].toArray w fun e w' => ∃ v, e = .returned v ∧ R v w' := fT_sound mixed ⟨[], [], [], []⟩ (by rw [spec_A2Book_eq]; exact h)

def impl_HeadsOf (C : Comb) (x0 : Array Value) : C.St :=
 C.new ty_impl_Book (.agg x0) fun b1 =>
 C.ld .agg 2 (Addr.mk b1 0 none) fun v7 =>
 C.call n_impl_open [(.agg v7), (.slice none 0 0)] [.optr, (.int .i64)] fun r8 =>
 cond (r8.2 != 0) (
 C.ret (.tuple #[(.slice none 0 0), (.int .i64 r8.2)])
 ) (
 dpT C r8.1 fun a4 =>
 C.ld .slice 1 (a4.add 2) fun v17 =>
 C.call n_slices_Clone_sl_impl_Key_impl_Key [(.slice v17.a v17.n v17.c)] [.slice] fun r18 =>
 C.call n_slices_DeleteFunc_sl_impl_Key_impl_Key [(.slice r18.a r18.n r18.c), (.func (.func n_impl_HeadsOf_1) #[] #[(.pointer (some (Addr.mk b1 0 none)))])] [.slice] fun r20 =>
 C.call n_impl_sorted [(.slice r20.a r20.n r20.c)] [.slice] fun r21 =>
 C.ret (.tuple #[(.slice r21.a r21.n r21.c), (.int .i64 0)])
 )
theorem impl_HeadsOf_eq (C : Comb) (x0 : Array Value) : fT C Tryz.prog ⟨[], [], [], []⟩ n_impl_HeadsOf [(.agg x0)] = impl_HeadsOf C x0 := by kernel_rfl
theorem impl_HeadsOf_calls {R : Value → World → Prop} {w : World} (x0 : Array Value) (h : (impl_HeadsOf (real Tryz.prog R) x0 : World → Prop) w) :
    Calls Tryz.prog n_impl_HeadsOf [(.agg x0)].toArray w fun e w' => ∃ v, e = .returned v ∧ R v w' := fT_sound mixed ⟨[], [], [], []⟩ (by rw [impl_HeadsOf_eq]; exact h)

def laws_a2At (C : Comb) (x0 : Sl) (x1 : Int) (x2 : Int) : C.St :=
 C.join (TL []) (embL []) (fun s1 => C.any fun _ =>
 C.ix x0.a x0.n 1 x1 fun p17 =>
 C.ld (.int .u8) 1 p17 fun v18 =>
 C.pur (eqB .rem ty_int64 (.tmp 19) (.tmp 20) (.int .i64 (IntKind.wrap .i64 (v18))) (.int .i64 x2)) (.int .i64) fun y21 =>
 C.ret (.int .i64 y21)
 ) fun jt =>
 cond (decide (x1 ≥ (x0.n : Int))) (
 C.ret (.int .i64 0)
 ) (
 cond (decide (x2 < 1)) (
 C.ret (.int .i64 0)
 ) (
 jt []
 )
 )
theorem laws_a2At_eq (C : Comb) (x0 : Sl) (x1 : Int) (x2 : Int) : fT C Tryz.prog ⟨[], [(42, [])], [], []⟩ n_laws_a2At [(.slice x0.a x0.n x0.c), (.int .i64 x1), (.int .i64 x2)] = laws_a2At C x0 x1 x2 := by kernel_rfl
theorem laws_a2At_calls {R : Value → World → Prop} {w : World} (x0 : Sl) (x1 : Int) (x2 : Int) (h : (laws_a2At (real Tryz.prog R) x0 x1 x2 : World → Prop) w) :
    Calls Tryz.prog n_laws_a2At [(.slice x0.a x0.n x0.c), (.int .i64 x1), (.int .i64 x2)].toArray w fun e w' => ∃ v, e = .returned v ∧ R v w' := fT_sound mixed ⟨[], [(42, [])], [], []⟩ (by rw [laws_a2At_eq]; exact h)

def spec_CommitKey (C : Comb) (x0 : Array Value) : C.St :=
 C.new ty_impl_Commit (.agg x0) fun b1 =>
 C.new ty_impl_Key (.agg (Array.replicate 32 (.int .u8 0))) fun b2 =>
 C.call n_spec_l07Ok [(.pointer (some (Addr.mk b1 0 none)))] [.bool] fun r4 =>
 cond (!r4) (
 C.st 32 (Addr.mk b2 0 none) (.agg (Array.replicate 32 (.int .u8 0))) <|
 C.ld .agg 32 (Addr.mk b2 0 none) fun z4 =>
 C.ret (.tuple #[(.agg z4), (.int .i64 1)])
 ) (
 C.call n_spec_l07Key [(.pointer (some (Addr.mk b1 0 none)))] [.agg] fun r7 =>
 C.st 32 (Addr.mk b2 0 none) (.agg r7) <|
 C.ld .agg 32 (Addr.mk b2 0 none) fun z6 =>
 C.ret (.tuple #[(.agg z6), (.int .i64 0)])
 )
theorem spec_CommitKey_eq (C : Comb) (x0 : Array Value) : fT C Tryz.prog ⟨[], [], [], []⟩ n_spec_CommitKey [(.agg x0)] = spec_CommitKey C x0 := by kernel_rfl
theorem spec_CommitKey_calls {R : Value → World → Prop} {w : World} (x0 : Array Value) (h : (spec_CommitKey (real Tryz.prog R) x0 : World → Prop) w) :
    Calls Tryz.prog n_spec_CommitKey [(.agg x0)].toArray w fun e w' => ∃ v, e = .returned v ∧ R v w' := fT_sound mixed ⟨[], [], [], []⟩ (by rw [spec_CommitKey_eq]; exact h)

def impl_AncestorsOf (C : Comb) (x0 : Array Value) (x1 : Array Value) : C.St :=
 C.new ty_impl_Book (.agg x0) fun b2 =>
 C.new ty_impl_Key (.agg x1) fun b3 =>
 C.ld .agg 2 (Addr.mk b2 0 none) fun v9 =>
 C.ld .agg 32 (Addr.mk b3 0 none) fun v10 =>
 C.sem (Instr.buildSlice ty_sl_impl_Key 1 #[(0, (.agg v10))]) .slice fun y11 =>
 C.call n_impl_open [(.agg v9), (.slice y11.a y11.n y11.c)] [.optr, (.int .i64)] fun r12 =>
 cond (r12.2 != 0) (
 C.ret (.tuple #[(.slice none 0 0), (.int .i64 r12.2)])
 ) (
 C.ld .agg 32 (Addr.mk b3 0 none) fun v19 =>
 C.call n_ptr_impl_ledger_ancestors [(.pointer r12.1), (.agg v19)] [.slice] fun r20 =>
 C.ret (.tuple #[(.slice r20.a r20.n r20.c), (.int .i64 0)])
 )
theorem impl_AncestorsOf_eq (C : Comb) (x0 : Array Value) (x1 : Array Value) : fT C Tryz.prog ⟨[], [], [], []⟩ n_impl_AncestorsOf [(.agg x0), (.agg x1)] = impl_AncestorsOf C x0 x1 := by kernel_rfl
theorem impl_AncestorsOf_calls {R : Value → World → Prop} {w : World} (x0 : Array Value) (x1 : Array Value) (h : (impl_AncestorsOf (real Tryz.prog R) x0 x1 : World → Prop) w) :
    Calls Tryz.prog n_impl_AncestorsOf [(.agg x0), (.agg x1)].toArray w fun e w' => ∃ v, e = .returned v ∧ R v w' := fT_sound mixed ⟨[], [], [], []⟩ (by rw [impl_AncestorsOf_eq]; exact h)

def impl_BasesOf (C : Comb) (x0 : Array Value) (x1 : Array Value) (x2 : Array Value) : C.St :=
 C.new ty_impl_Book (.agg x0) fun b3 =>
 C.new ty_impl_Key (.agg x1) fun b4 =>
 C.new ty_impl_Key (.agg x2) fun b5 =>
 C.ld .agg 2 (Addr.mk b3 0 none) fun v11 =>
 C.ld .agg 32 (Addr.mk b4 0 none) fun v12 =>
 C.ld .agg 32 (Addr.mk b5 0 none) fun v13 =>
 C.sem (Instr.buildSlice ty_sl_impl_Key 2 #[(0, (.agg v12)), (1, (.agg v13))]) .slice fun y14 =>
 C.call n_impl_open [(.agg v11), (.slice y14.a y14.n y14.c)] [.optr, (.int .i64)] fun r15 =>
 cond (r15.2 != 0) (
 C.ret (.tuple #[(.slice none 0 0), (.int .i64 r15.2)])
 ) (
 C.ld .agg 32 (Addr.mk b4 0 none) fun v22 =>
 C.ld .agg 32 (Addr.mk b5 0 none) fun v23 =>
 C.call n_ptr_impl_ledger_bases [(.pointer r15.1), (.agg v22), (.agg v23)] [.slice] fun r24 =>
 C.ret (.tuple #[(.slice r24.a r24.n r24.c), (.int .i64 0)])
 )
theorem impl_BasesOf_eq (C : Comb) (x0 : Array Value) (x1 : Array Value) (x2 : Array Value) : fT C Tryz.prog ⟨[], [], [], []⟩ n_impl_BasesOf [(.agg x0), (.agg x1), (.agg x2)] = impl_BasesOf C x0 x1 x2 := by kernel_rfl
theorem impl_BasesOf_calls {R : Value → World → Prop} {w : World} (x0 : Array Value) (x1 : Array Value) (x2 : Array Value) (h : (impl_BasesOf (real Tryz.prog R) x0 x1 x2 : World → Prop) w) :
    Calls Tryz.prog n_impl_BasesOf [(.agg x0), (.agg x1), (.agg x2)].toArray w fun e w' => ∃ v, e = .returned v ∧ R v w' := fT_sound mixed ⟨[], [], [], []⟩ (by rw [impl_BasesOf_eq]; exact h)

def impl_IsAncestor (C : Comb) (x0 : Array Value) (x1 : Array Value) (x2 : Array Value) : C.St :=
 C.new ty_impl_Book (.agg x0) fun b3 =>
 C.new ty_impl_Key (.agg x1) fun b4 =>
 C.new ty_impl_Key (.agg x2) fun b5 =>
 C.ld .agg 2 (Addr.mk b3 0 none) fun v11 =>
 C.ld .agg 32 (Addr.mk b4 0 none) fun v12 =>
 C.ld .agg 32 (Addr.mk b5 0 none) fun v13 =>
 C.sem (Instr.buildSlice ty_sl_impl_Key 2 #[(0, (.agg v12)), (1, (.agg v13))]) .slice fun y14 =>
 C.call n_impl_open [(.agg v11), (.slice y14.a y14.n y14.c)] [.optr, (.int .i64)] fun r15 =>
 cond (r15.2 != 0) (
 C.ret (.tuple #[(.bool false), (.int .i64 r15.2)])
 ) (
 C.ld .agg 32 (Addr.mk b4 0 none) fun v22 =>
 C.ld .agg 32 (Addr.mk b5 0 none) fun v23 =>
 C.call n_ptr_impl_ledger_isAncestor [(.pointer r15.1), (.agg v22), (.agg v23)] [.bool] fun r24 =>
 C.ret (.tuple #[(.bool r24), (.int .i64 0)])
 )
theorem impl_IsAncestor_eq (C : Comb) (x0 : Array Value) (x1 : Array Value) (x2 : Array Value) : fT C Tryz.prog ⟨[], [], [], []⟩ n_impl_IsAncestor [(.agg x0), (.agg x1), (.agg x2)] = impl_IsAncestor C x0 x1 x2 := by kernel_rfl
theorem impl_IsAncestor_calls {R : Value → World → Prop} {w : World} (x0 : Array Value) (x1 : Array Value) (x2 : Array Value) (h : (impl_IsAncestor (real Tryz.prog R) x0 x1 x2 : World → Prop) w) :
    Calls Tryz.prog n_impl_IsAncestor [(.agg x0), (.agg x1), (.agg x2)].toArray w fun e w' => ∃ v, e = .returned v ∧ R v w' := fT_sound mixed ⟨[], [], [], []⟩ (by rw [impl_IsAncestor_eq]; exact h)

def impl_WayTo (C : Comb) (x0 : Array Value) (x1 : Array Value) (x2 : Array Value) : C.St :=
 C.new ty_impl_Book (.agg x0) fun b3 =>
 C.new ty_impl_Key (.agg x1) fun b4 =>
 C.new ty_impl_Key (.agg x2) fun b5 =>
 C.ld .agg 2 (Addr.mk b3 0 none) fun v21 =>
 C.ld .agg 32 (Addr.mk b4 0 none) fun v22 =>
 C.ld .agg 32 (Addr.mk b5 0 none) fun v23 =>
 C.sem (Instr.buildSlice ty_sl_impl_Key 2 #[(0, (.agg v22)), (1, (.agg v23))]) .slice fun y24 =>
 C.call n_impl_open [(.agg v21), (.slice y24.a y24.n y24.c)] [.optr, (.int .i64)] fun r25 =>
 C.join (TL [(.int .i64)]) (embL [(.int .i64)]) (fun s12 => C.any fun _ =>
 cond (s12 != 0) (
 C.ret (.tuple #[(.slice none 0 0), (.int .i64 s12)])
 ) (
 C.sem (Instr.makeMap ty_map_impl_Key_sl_impl_Key none) .val fun y40 =>
 C.ld .agg 32 (Addr.mk b4 0 none) fun v41 =>
 C.ld .agg 32 (Addr.mk b4 0 none) fun v42 =>
 C.sem (Instr.buildSlice ty_sl_impl_Key 1 #[(0, (.agg v42))]) .slice fun y43 =>
 C.eff (Instr.mapUpdate ty_map_impl_Key_sl_impl_Key y40 (.agg v41) (.slice y43.a y43.n y43.c)) <|
 C.ld .slice 1 ((Addr.mk b3 0 none).add 0) fun v46 =>
 C.loop (TL [(.int .i64)]) (embL [(.int .i64)]) [(.int .i64 0)] fun s18 ct18 => C.any fun _ =>
 cond (decide (s18 < (v46.n : Int))) (
 C.ix v46.a v46.n 35 s18 fun p51 =>
 C.ld .agg 35 p51 fun v52 =>
 C.new ty_impl_Commit (.agg (#[(.int .u8 0), (.int .u8 0), (.int .u8 0), (.int .u8 0), (.int .u8 0), (.int .u8 0), (.int .u8 0), (.int .u8 0), (.int .u8 0), (.int .u8 0), (.int .u8 0), (.int .u8 0), (.int .u8 0), (.int .u8 0), (.int .u8 0), (.int .u8 0), (.int .u8 0), (.int .u8 0), (.int .u8 0), (.int .u8 0), (.int .u8 0), (.int .u8 0), (.int .u8 0), (.int .u8 0), (.int .u8 0), (.int .u8 0), (.int .u8 0), (.int .u8 0), (.int .u8 0), (.int .u8 0), (.int .u8 0), (.int .u8 0), (.slice none 0 0), (.int .i64 0), (.string (⟨#[]⟩ : ByteArray))])) fun b12 =>
 C.st 35 (Addr.mk b12 0 none) (.agg v52) <|
 dpT C r25.1 fun a22 =>
 C.ld .slice 1 (a22.add 2) fun v56 =>
 C.ix v56.a v56.n 32 s18 fun p58 =>
 C.ld .agg 32 p58 fun v59 =>
 C.new ty_impl_Key (.agg (Array.replicate 32 (.int .u8 0))) fun b13 =>
 C.st 32 (Addr.mk b13 0 none) (.agg v59) <|
 C.ld .slice 1 ((Addr.mk b12 0 none).add 32) fun v61 =>
 C.loop (TL [(.int .i64)]) (embL [(.int .i64)]) [(.int .i64 0)] fun s28 ct28 => C.any fun _ =>
 cond (decide (s28 < (v61.n : Int))) (
 C.ix v61.a v61.n 32 s28 fun p65 =>
 C.ld .agg 32 p65 fun v66 =>
 C.new ty_impl_Key (.agg (Array.replicate 32 (.int .u8 0))) fun b15 =>
 C.st 32 (Addr.mk b15 0 none) (.agg v66) <|
 C.ld .agg 32 (Addr.mk b15 0 none) fun v69 =>
 C.semL (Instr.lookup ty_map_impl_Key_sl_impl_Key y40 (.agg v69) true) [.slice, .bool] fun y70 =>
 C.join (TL []) (embL []) (fun s37 => C.any fun _ =>
 C.join (TL [.slice]) (embL [.slice]) (fun s45 => C.any fun _ =>
 C.ld .agg 32 (Addr.mk b13 0 none) fun v87 =>
 C.semL (Instr.lookup ty_map_impl_Key_sl_impl_Key y40 (.agg v87) true) [.slice, .bool] fun y88 =>
 cond (!y88.2) (
 C.ld .agg 32 (Addr.mk b13 0 none) fun v114 =>
 C.eff (Instr.mapUpdate ty_map_impl_Key_sl_impl_Key y40 (.agg v114) (.slice s45.a s45.n s45.c)) <|
 ct28 [(.int .i64 (IntKind.wrap .i64 (s28 + 1)))]
 ) (
 cond (decide ((s45.n : Int) < (y88.1.n : Int))) (
 C.ld .agg 32 (Addr.mk b13 0 none) fun v114 =>
 C.eff (Instr.mapUpdate ty_map_impl_Key_sl_impl_Key y40 (.agg v114) (.slice s45.a s45.n s45.c)) <|
 ct28 [(.int .i64 (IntKind.wrap .i64 (s28 + 1)))]
 ) (
 cond ((s45.n : Int) == (y88.1.n : Int)) (
 C.call n_slices_CompareFunc_sl_impl_Key_sl_impl_Key_impl_Key_impl_Key [(.slice s45.a s45.n s45.c), (.slice y88.1.a y88.1.n y88.1.c), (.func (.func n_impl_compareKeys) #[] #[])] [(.int .i64)] fun r109 =>
 cond (decide (r109 < 0)) (
 C.ld .agg 32 (Addr.mk b13 0 none) fun v114 =>
 C.eff (Instr.mapUpdate ty_map_impl_Key_sl_impl_Key y40 (.agg v114) (.slice s45.a s45.n s45.c)) <|
 ct28 [(.int .i64 (IntKind.wrap .i64 (s28 + 1)))]
 ) (
 ct28 [(.int .i64 (IntKind.wrap .i64 (s28 + 1)))]
 )
 ) (
 ct28 [(.int .i64 (IntKind.wrap .i64 (s28 + 1)))]
 )
 )
 )
 ) fun jt =>
 C.draw <|
 C.ld .agg 32 (Addr.mk b13 0 none) fun v82 =>
 C.all [
 (C.call n_slices_Clone_sl_impl_Key_impl_Key [(.slice y70.1.a y70.1.n y70.1.c)] [.slice] fun r81 =>
 C.chk [⟨2, 32, (Addr.mk b13 0 none), .agg, v82⟩] <|
 C.sem (Instr.buildSlice ty_sl_impl_Key 1 #[(0, (.agg v82))]) .slice fun y83 =>
 C.sem (Builtin.append_ #[ty_sl_impl_Key, ty_sl_impl_Key] ty_sl_impl_Key #[(.slice r81.a r81.n r81.c), (.slice y83.a y83.n y83.c)]) .slice fun y84 =>
 jt [(.slice y84.a y84.n y84.c)]),
 (C.sem (Instr.buildSlice ty_sl_impl_Key 1 #[(0, (.agg v82))]) .slice fun y83 =>
 C.call n_slices_Clone_sl_impl_Key_impl_Key [(.slice y70.1.a y70.1.n y70.1.c)] [.slice] fun r81 =>
 C.sem (Builtin.append_ #[ty_sl_impl_Key, ty_sl_impl_Key] ty_sl_impl_Key #[(.slice r81.a r81.n r81.c), (.slice y83.a y83.n y83.c)]) .slice fun y84 =>
 jt [(.slice y84.a y84.n y84.c)])]
 ) fun jt =>
 cond (!y70.2) (
 ct28 [(.int .i64 (IntKind.wrap .i64 (s28 + 1)))]
 ) (
 C.ld .agg 32 (Addr.mk b13 0 none) fun v76 =>
 C.ld .agg 32 (Addr.mk b4 0 none) fun v77 =>
 C.pur (eqB .eql ty_impl_Key (.tmp 76) (.tmp 77) (.agg v76) (.agg v77)) .bool fun y78 =>
 cond y78 (
 ct28 [(.int .i64 (IntKind.wrap .i64 (s28 + 1)))]
 ) (
 jt []
 )
 )
 ) (
 ct18 [(.int .i64 (IntKind.wrap .i64 (s18 + 1)))]
 )
 ) (
 C.ld .agg 32 (Addr.mk b5 0 none) fun v119 =>
 C.semL (Instr.lookup ty_map_impl_Key_sl_impl_Key y40 (.agg v119) false) [.slice] fun y120 =>
 C.ret (.tuple #[(.slice y120.a y120.n y120.c), (.int .i64 0)])
 )
 )
 ) fun jt =>
 cond (r25.2 == 0) (
 C.ld .agg 32 (Addr.mk b4 0 none) fun v32 =>
 C.ld .agg 32 (Addr.mk b5 0 none) fun v33 =>
 C.call n_ptr_impl_ledger_isAncestor [(.pointer r25.1), (.agg v32), (.agg v33)] [.bool] fun r34 =>
 cond (!r34) (
 jt [(.int .i64 4)]
 ) (
 jt [(.int .i64 r25.2)]
 )
 ) (
 jt [(.int .i64 r25.2)]
 )
theorem impl_WayTo_eq (C : Comb) (x0 : Array Value) (x1 : Array Value) (x2 : Array Value) : fT C Tryz.prog ⟨[(8, [(48, (.int .i64))]), (12, [(63, (.int .i64))])], [(108, [(9, (.int .i64))]), (237, []), (49, [(16, .slice)])], [16], []⟩ n_impl_WayTo [(.agg x0), (.agg x1), (.agg x2)] = impl_WayTo C x0 x1 x2 := by kernel_rfl
theorem impl_WayTo_calls {R : Value → World → Prop} {w : World} (x0 : Array Value) (x1 : Array Value) (x2 : Array Value) (h : (impl_WayTo (real Tryz.prog R) x0 x1 x2 : World → Prop) w) :
    Calls Tryz.prog n_impl_WayTo [(.agg x0), (.agg x1), (.agg x2)].toArray w fun e w' => ∃ v, e = .returned v ∧ R v w' := fT_sound mixed ⟨[(8, [(48, (.int .i64))]), (12, [(63, (.int .i64))])], [(108, [(9, (.int .i64))]), (237, []), (49, [(16, .slice)])], [16], []⟩ (by rw [impl_WayTo_eq]; exact h)

def laws_a2Has (C : Comb) (x0 : Sl) (x1 : Array Value) : C.St :=
 C.new ty_impl_Key (.agg x1) fun b3 =>
 C.loop (TL [(.int .i64)]) (embL [(.int .i64)]) [(.int .i64 0)] fun s2 ct2 => C.any fun _ =>
 cond (decide (s2 < (x0.n : Int))) (
 C.draw <|
 C.ix x0.a x0.n 32 s2 fun p14 =>
 C.ld .agg 32 p14 fun v15 =>
 C.ld .agg 32 (Addr.mk b3 0 none) fun v16 =>
 C.pur (eqB .eql ty_impl_Key (.tmp 15) (.tmp 16) (.agg v15) (.agg v16)) .bool fun y17 =>
 cond y17 (
 C.ret (.bool true)
 ) (
 ct2 [(.int .i64 (IntKind.wrap .i64 (s2 + 1)))]
 )
 ) (
 C.ret (.bool false)
 )
theorem laws_a2Has_eq (C : Comb) (x0 : Sl) (x1 : Array Value) : fT C Tryz.prog ⟨[(2, [(5, (.int .i64))])], [], [], []⟩ n_laws_a2Has [(.slice x0.a x0.n x0.c), (.agg x1)] = laws_a2Has C x0 x1 := by kernel_rfl
theorem laws_a2Has_calls {R : Value → World → Prop} {w : World} (x0 : Sl) (x1 : Array Value) (h : (laws_a2Has (real Tryz.prog R) x0 x1 : World → Prop) w) :
    Calls Tryz.prog n_laws_a2Has [(.slice x0.a x0.n x0.c), (.agg x1)].toArray w fun e w' => ∃ v, e = .returned v ∧ R v w' := fT_sound mixed ⟨[(2, [(5, (.int .i64))])], [], [], []⟩ (by rw [laws_a2Has_eq]; exact h)

def spec_SameKeys (C : Comb) (x0 : Sl) (x1 : Sl) : C.St :=
 C.call n_spec_l03Lists [(.slice x0.a x0.n x0.c), (.slice x1.a x1.n x1.c)] [.bool] fun r7 =>
 C.ret (.bool r7)
theorem spec_SameKeys_eq (C : Comb) (x0 : Sl) (x1 : Sl) : fT C Tryz.prog ⟨[], [], [], []⟩ n_spec_SameKeys [(.slice x0.a x0.n x0.c), (.slice x1.a x1.n x1.c)] = spec_SameKeys C x0 x1 := by kernel_rfl
theorem spec_SameKeys_calls {R : Value → World → Prop} {w : World} (x0 : Sl) (x1 : Sl) (h : (spec_SameKeys (real Tryz.prog R) x0 x1 : World → Prop) w) :
    Calls Tryz.prog n_spec_SameKeys [(.slice x0.a x0.n x0.c), (.slice x1.a x1.n x1.c)].toArray w fun e w' => ∃ v, e = .returned v ∧ R v w' := fT_sound mixed ⟨[], [], [], []⟩ (by rw [spec_SameKeys_eq]; exact h)

def spec_AncestorsOf (C : Comb) (x0 : Array Value) (x1 : Array Value) : C.St :=
 C.new ty_impl_Book (.agg x0) fun b2 =>
 C.new ty_impl_Key (.agg x1) fun b3 =>
 C.ld .agg 32 (Addr.mk b3 0 none) fun v9 =>
 C.call n_spec_l07At [(.pointer (some (Addr.mk b2 0 none))), (.agg v9)] [(.int .i64), (.int .i64)] fun r10 =>
 cond (r10.2 != 0) (
 C.sem (Instr.buildSlice ty_sl_impl_Key 0 #[]) .slice fun y15 =>
 C.ret (.tuple #[(.slice y15.a y15.n y15.c), (.int .i64 r10.2)])
 ) (
 C.call n_spec_l07Above [(.pointer (some (Addr.mk b2 0 none))), (.int .i64 r10.1)] [.slice] fun r18 =>
 C.ret (.tuple #[(.slice r18.a r18.n r18.c), (.int .i64 0)])
 )
theorem spec_AncestorsOf_eq (C : Comb) (x0 : Array Value) (x1 : Array Value) : fT C Tryz.prog ⟨[], [], [], []⟩ n_spec_AncestorsOf [(.agg x0), (.agg x1)] = spec_AncestorsOf C x0 x1 := by kernel_rfl
theorem spec_AncestorsOf_calls {R : Value → World → Prop} {w : World} (x0 : Array Value) (x1 : Array Value) (h : (spec_AncestorsOf (real Tryz.prog R) x0 x1 : World → Prop) w) :
    Calls Tryz.prog n_spec_AncestorsOf [(.agg x0), (.agg x1)].toArray w fun e w' => ∃ v, e = .returned v ∧ R v w' := fT_sound mixed ⟨[], [], [], []⟩ (by rw [spec_AncestorsOf_eq]; exact h)

def spec_CompareKeys (C : Comb) (x0 : Array Value) (x1 : Array Value) : C.St :=
 C.new ty_impl_Key (.agg x0) fun b2 =>
 C.new ty_impl_Key (.agg x1) fun b3 =>
 C.ld .agg 32 (Addr.mk b2 0 none) fun v5 =>
 C.ld .agg 32 (Addr.mk b3 0 none) fun v6 =>
 C.call n_spec_l01Compare [(.agg v5), (.agg v6)] [(.int .i64)] fun r7 =>
 C.ret (.int .i64 r7)
theorem spec_CompareKeys_eq (C : Comb) (x0 : Array Value) (x1 : Array Value) : fT C Tryz.prog ⟨[], [], [], []⟩ n_spec_CompareKeys [(.agg x0), (.agg x1)] = spec_CompareKeys C x0 x1 := by kernel_rfl
theorem spec_CompareKeys_calls {R : Value → World → Prop} {w : World} (x0 : Array Value) (x1 : Array Value) (h : (spec_CompareKeys (real Tryz.prog R) x0 x1 : World → Prop) w) :
    Calls Tryz.prog n_spec_CompareKeys [(.agg x0), (.agg x1)].toArray w fun e w' => ∃ v, e = .returned v ∧ R v w' := fT_sound mixed ⟨[], [], [], []⟩ (by rw [spec_CompareKeys_eq]; exact h)

def spec_IsAncestor (C : Comb) (x0 : Array Value) (x1 : Array Value) (x2 : Array Value) : C.St :=
 C.new ty_impl_Book (.agg x0) fun b3 =>
 C.new ty_impl_Key (.agg x1) fun b4 =>
 C.new ty_impl_Key (.agg x2) fun b5 =>
 C.ld .agg 32 (Addr.mk b4 0 none) fun v12 =>
 C.ld .agg 32 (Addr.mk b5 0 none) fun v13 =>
 C.call n_spec_l07Two [(.pointer (some (Addr.mk b3 0 none))), (.agg v12), (.agg v13)] [(.int .i64), (.int .i64), (.int .i64)] fun r14 =>
 cond (r14.2.2 != 0) (
 C.ret (.tuple #[(.bool false), (.int .i64 r14.2.2)])
 ) (
 C.draw <|
 C.ld .agg 32 (Addr.mk b4 0 none) fun v23 =>
 C.call n_spec_l07Above [(.pointer (some (Addr.mk b3 0 none))), (.int .i64 r14.2.1)] [.slice] fun r22 =>
 C.chk [⟨2, 32, (Addr.mk b4 0 none), .agg, v23⟩] <|
 C.call n_spec_l01Has [(.slice r22.a r22.n r22.c), (.agg v23)] [.bool] fun r24 =>
 C.ret (.tuple #[(.bool r24), (.int .i64 0)])
 )
theorem spec_IsAncestor_eq (C : Comb) (x0 : Array Value) (x1 : Array Value) (x2 : Array Value) : fT C Tryz.prog ⟨[], [], [4], []⟩ n_spec_IsAncestor [(.agg x0), (.agg x1), (.agg x2)] = spec_IsAncestor C x0 x1 x2 := by kernel_rfl
theorem spec_IsAncestor_calls {R : Value → World → Prop} {w : World} (x0 : Array Value) (x1 : Array Value) (x2 : Array Value) (h : (spec_IsAncestor (real Tryz.prog R) x0 x1 x2 : World → Prop) w) :
    Calls Tryz.prog n_spec_IsAncestor [(.agg x0), (.agg x1), (.agg x2)].toArray w fun e w' => ∃ v, e = .returned v ∧ R v w' := fT_sound mixed ⟨[], [], [4], []⟩ (by rw [spec_IsAncestor_eq]; exact h)

def spec_FindCommit (C : Comb) (x0 : Array Value) (x1 : Array Value) : C.St :=
 C.new ty_impl_Book (.agg x0) fun b2 =>
 C.new ty_impl_Key (.agg x1) fun b3 =>
 C.ld .agg 32 (Addr.mk b3 0 none) fun v9 =>
 C.call n_spec_l07At [(.pointer (some (Addr.mk b2 0 none))), (.agg v9)] [(.int .i64), (.int .i64)] fun r10 =>
 C.ret (.tuple #[(.int .i64 r10.1), (.int .i64 r10.2)])
theorem spec_FindCommit_eq (C : Comb) (x0 : Array Value) (x1 : Array Value) : fT C Tryz.prog ⟨[], [], [], []⟩ n_spec_FindCommit [(.agg x0), (.agg x1)] = spec_FindCommit C x0 x1 := by kernel_rfl
theorem spec_FindCommit_calls {R : Value → World → Prop} {w : World} (x0 : Array Value) (x1 : Array Value) (h : (spec_FindCommit (real Tryz.prog R) x0 x1 : World → Prop) w) :
    Calls Tryz.prog n_spec_FindCommit [(.agg x0), (.agg x1)].toArray w fun e w' => ∃ v, e = .returned v ∧ R v w' := fT_sound mixed ⟨[], [], [], []⟩ (by rw [spec_FindCommit_eq]; exact h)

def impl_ValidCommit (C : Comb) (x0 : Array Value) : C.St :=
 C.new ty_impl_Commit (.agg x0) fun b1 =>
 C.loop (TL [(.int .i64)]) (embL [(.int .i64)]) [(.int .i64 1)] fun s2 ct2 => C.any fun _ =>
 C.ld .slice 1 ((Addr.mk b1 0 none).add 32) fun v6 =>
 cond (decide (s2 < (v6.n : Int))) (
 C.draw <|
 C.ld .slice 1 ((Addr.mk b1 0 none).add 32) fun v12 =>
 C.ix v12.a v12.n 32 (IntKind.wrap .i64 (s2 - 1)) fun p15 =>
 C.ld .agg 32 p15 fun v16 =>
 C.ld .slice 1 ((Addr.mk b1 0 none).add 32) fun v18 =>
 C.ix v18.a v18.n 32 s2 fun p20 =>
 C.ld .agg 32 p20 fun v21 =>
 C.call n_impl_compareKeys [(.agg v16), (.agg v21)] [(.int .i64)] fun r22 =>
 C.chk [⟨7, 1, ((Addr.mk b1 0 none).add 32), .slice, v18⟩, ⟨1, 1, ((Addr.mk b1 0 none).add 32), .slice, v12⟩] <|
 cond (decide (r22 ≥ 0)) (
 C.ret (.bool false)
 ) (
 ct2 [(.int .i64 (IntKind.wrap .i64 (s2 + 1)))]
 )
 ) (
 C.ld .slice 1 ((Addr.mk b1 0 none).add 32) fun v25 =>
 cond (decide ((v25.n : Int) ≤ 3)) (
 C.ld (.int .i64) 1 ((Addr.mk b1 0 none).add 33) fun v30 =>
 C.call n_impl_within [(.int .i64 v30), (.int .i64 0), (.int .i64 40)] [.bool] fun r31 =>
 cond r31 (
 C.ld .str 1 ((Addr.mk b1 0 none).add 34) fun v35 =>
 C.ret (.bool (decide ((v35.size : Int) ≤ 64)))
 ) (
 C.ret (.bool false)
 )
 ) (
 C.ret (.bool false)
 )
 )
theorem impl_ValidCommit_eq (C : Comb) (x0 : Array Value) : fT C Tryz.prog ⟨[(2, [(3, (.int .i64))])], [], [4], []⟩ n_impl_ValidCommit [(.agg x0)] = impl_ValidCommit C x0 := by kernel_rfl
theorem impl_ValidCommit_calls {R : Value → World → Prop} {w : World} (x0 : Array Value) (h : (impl_ValidCommit (real Tryz.prog R) x0 : World → Prop) w) :
    Calls Tryz.prog n_impl_ValidCommit [(.agg x0)].toArray w fun e w' => ∃ v, e = .returned v ∧ R v w' := fT_sound mixed ⟨[(2, [(3, (.int .i64))])], [], [4], []⟩ (by rw [impl_ValidCommit_eq]; exact h)

end Go.Proofs.YtkifkdkjljcclaaGreat
