/- Printed by a program of this claim's author: each Go function as a Lean function over abstract combinators, and the equation that says that T makes it of the loaded code. -/
import Derived.Test.YtaadgdbegpmlmaaGreatProg
import Derived.Test.YtaadgdbegpmlmaaGreatPkLCM02
namespace Go.Proofs.YtaadgdbegpmlmaaGreat
open Go.Sx
theorem mixed : Tryz.prog.follows .mixedOrders = true := by kernel_rfl

abbrev n_laws_FnExactCommitMap : Nat := 12
abbrev n_laws_szBook : Nat := 30
abbrev n_laws_toBook : Nat := 32
abbrev n_laws_toKey : Nat := 33
abbrev n_laws_eqBook : Nat := 36
abbrev n_laws_markBook : Nat := 37
abbrev n_impl_ValidCommit : Nat := 62
abbrev n_impl_CommitMap : Nat := 64
abbrev n_spec_CommitMap : Nat := 65
abbrev n_laws_eqKeyS : Nat := 69
abbrev n_laws_markKeyS : Nat := 70
abbrev n_laws_heldKeyS : Nat := 71
abbrev n_laws_szKeyS : Nat := 74
abbrev n_laws_szEntryS : Nat := 75
abbrev n_laws_toKeyS : Nat := 76
abbrev n_laws_toEntryS : Nat := 77
abbrev n_laws_eqKey : Nat := 78
abbrev n_laws_eqEntryS : Nat := 79
abbrev n_laws_markEntryS : Nat := 80
abbrev n_laws_heldBook : Nat := 81
abbrev n_impl_sorted : Nat := 97
abbrev n_slices_Clone_sl_impl_Key_impl_Key : Nat := 99
abbrev n_spec_l07Ok : Nat := 104
abbrev n_spec_l07Key : Nat := 105
abbrev n_impl_compareKeys : Nat := 110
abbrev n_spec_l01Compare : Nat := 114
abbrev n_spec_l01Has : Nat := 116
abbrev n_laws_szCommitS : Nat := 117
abbrev n_laws_szEntrySS : Nat := 118
abbrev n_laws_toCommitS : Nat := 120
abbrev n_laws_toEntrySS : Nat := 121
abbrev n_laws_eqCommitS : Nat := 124
abbrev n_laws_eqEntrySS : Nat := 125
abbrev n_laws_markCommitS : Nat := 126
abbrev n_laws_markEntrySS : Nat := 127
abbrev n_laws_markText : Nat := 128
abbrev n_impl_newLedger : Nat := 148
abbrev n_impl_Commit_data : Nat := 153
abbrev n_impl_Commit_key : Nat := 155
abbrev n_spec_l01Hash : Nat := 156
abbrev n_impl_within : Nat := 159
abbrev n_impl_ValidEntries : Nat := 161
abbrev n_ptr_impl_ledger_commit : Nat := 162
abbrev n_spec_l07Book : Nat := 163
abbrev n_spec_ValidEntries : Nat := 164
abbrev n_spec_l07Commit : Nat := 165
abbrev n_spec_l07Keys : Nat := 167
abbrev n_spec_l01Sort : Nat := 168
abbrev n_spec_l07Find : Nat := 169
abbrev n_laws_szEntry : Nat := 172
abbrev n_laws_toEntry : Nat := 173
abbrev n_laws_eqEntry : Nat := 174
abbrev n_laws_heldCommitS : Nat := 175
abbrev n_laws_heldEntrySS : Nat := 176
abbrev n_slices_Clone_sl_impl_Entry_impl_Entry : Nat := 193
abbrev n_ptr_impl_ledger_find : Nat := 198
abbrev n_slices_SortFunc_sl_impl_Key_impl_Key : Nat := 199
abbrev n_slices_Compact_sl_impl_Key_impl_Key : Nat := 200
abbrev n_slices_Index_sl_impl_Key_impl_Key : Nat := 203
abbrev n_spec_l00In : Nat := 204
abbrev n_spec_l07Data : Nat := 205
abbrev n_slices_Compare_sl_byte_byte : Nat := 210
abbrev n_laws_szCommit : Nat := 211
abbrev n_laws_toCommit : Nat := 213
abbrev n_laws_eqCommit : Nat := 215
abbrev n_impl_treeOf : Nat := 240
abbrev n_ptr_impl_tree_key : Nat := 241
abbrev n_ptr_impl_ledger_number : Nat := 242
abbrev n_impl_hash : Nat := 245
abbrev n_spec_l01End : Nat := 246
abbrev n_spec_l01Start : Nat := 247
abbrev n_impl_ValidEntry : Nat := 248
abbrev n_impl_Book_copied : Nat := 249
abbrev n_spec_MapKey : Nat := 250
abbrev n_spec_l07Number : Nat := 251
abbrev n_spec_l04Ok : Nat := 252
abbrev n_spec_l07Copy : Nat := 253
abbrev n_spec_l01Xor : Nat := 254
abbrev n_laws_heldEntryS : Nat := 255
abbrev n_impl_EmptyMapKey : Nat := 258
abbrev n_spec_l04Empty : Nat := 262
abbrev n_spec_l07Add : Nat := 271
abbrev n_cmp_Compare_byte : Nat := 272
abbrev n_spec_l04Nodes : Nat := 274
abbrev n_spec_l04Bytes : Nat := 276
abbrev n_impl_grow : Nat := 289
abbrev n_impl_MapNode_key : Nat := 290
abbrev n_impl_blocks : Nat := 291
abbrev n_slices_Concat_sl_byte_byte : Nat := 292
abbrev n_impl_padding : Nat := 293
abbrev n_impl_size_byte : Nat := 294
abbrev n_impl_keyOf : Nat := 295
abbrev n_impl_mixed : Nat := 296
abbrev n_impl_StartState : Nat := 297
abbrev n_spec_l01Padded : Nat := 298
abbrev n_spec_l01Mix : Nat := 299
abbrev n_spec_l01Block : Nat := 300
abbrev n_impl_isName : Nat := 301
abbrev n_spec_l00Max : Nat := 302
abbrev n_spec_l04Entry : Nat := 303
abbrev n_cmp_isNaN_byte : Nat := 317
abbrev n_spec_l04Top : Nat := 318
abbrev n_spec_l04NodeKey : Nat := 319
abbrev n_impl_MapNode_bytes : Nat := 324
abbrev n_slices_Grow_sl_byte_byte : Nat := 325
abbrev n_impl_appendLittle : Nat := 326
abbrev n_impl_MixBlock : Nat := 327
abbrev n_spec_l01Turn : Nat := 328
abbrev n_spec_l04Name : Nat := 329
abbrev n_spec_l04Priority : Nat := 336
abbrev n_impl_littleNumber : Nat := 337
abbrev n_math_bits_RotateLeft32 : Nat := 338
abbrev ty_x : Nat := 0
abbrev ty_int64 : Nat := 2
abbrev ty_int : Nat := 3
abbrev ty_bool : Nat := 4
abbrev ty_uint8 : Nat := 5
abbrev ty_string : Nat := 9
abbrev ty_sl_uint8 : Nat := 22
abbrev ty_sl_impl_Commit : Nat := 24
abbrev ty_sl_sl_impl_Entry : Nat := 25
abbrev ty_impl_Book : Nat := 27
abbrev ty_sl_impl_Key : Nat := 29
abbrev ty_arr32_uint8 : Nat := 33
abbrev ty_impl_Key : Nat := 34
abbrev ty_impl_Commit : Nat := 38
abbrev ty_sl_laws_Commit : Nat := 48
abbrev ty_sl_sl_laws_Entry : Nat := 49
abbrev ty_laws_Book : Nat := 51
abbrev ty_impl_Lease : Nat := 73
abbrev ty_sl_impl_Entry : Nat := 88
abbrev ty_sl_arr32_uint8 : Nat := 94
abbrev ty_sl_laws_Entry : Nat := 95
abbrev ty_impl_Blob : Nat := 110
abbrev ty_impl_ledger : Nat := 125
abbrev ty_spec_l05Store : Nat := 165
abbrev ty_map_impl_Key_bool : Nat := 168
abbrev ty_impl_shop : Nat := 178
abbrev ty_laws_Entry : Nat := 213
abbrev ty_impl_Entry : Nat := 214
abbrev ty_uint64 : Nat := 242
abbrev ty_laws_Commit : Nat := 254
abbrev ty_sl_sl_uint8 : Nat := 262
abbrev ty_ptr_impl_tree : Nat := 279
abbrev ty_uint32 : Nat := 284
abbrev ty_arr8_uint32 : Nat := 285
abbrev ty_impl_MapNode : Nat := 294
abbrev ty_sl_impl_MapNode : Nat := 310
abbrev ty_impl_tree : Nat := 328
/-- laws.FnExactCommitMap (12) -/
def laws_FnExactCommitMap (C : Comb) (x0 : Array Value) (x1 : Sl) (x2 : Sl) (x3 : ByteArray) : C.St :=
  C.new ty_laws_Book (.agg x0) fun b4 =>
  cond (decide ((x3.size : Int) > 1048576)) (
    C.ret (.bool true)
  ) (
    C.ld .agg 2 (Addr.mk b4 0 none) fun v28 =>
    C.call n_laws_szBook [(.agg v28), (.int .i64 1048576)] [(.int .i64)] fun r30 =>
    cond (decide (r30 < 0)) (
      C.ret (.bool true)
    ) (
      C.call n_laws_szKeyS [(.slice x1.a x1.n x1.c), (.int .i64 r30)] [(.int .i64)] fun r35 =>
      cond (decide (r35 < 0)) (
        C.ret (.bool true)
      ) (
        C.call n_laws_szEntryS [(.slice x2.a x2.n x2.c), (.int .i64 r35)] [(.int .i64)] fun r40 =>
        cond (decide (r40 < 0)) (
          C.ret (.bool true)
        ) (
          C.ld .agg 2 (Addr.mk b4 0 none) fun v44 =>
          C.call n_laws_toBook [(.agg v44)] [.agg] fun r45 =>
          C.call n_laws_toKeyS [(.slice x1.a x1.n x1.c)] [.slice] fun r47 =>
          C.call n_laws_toEntryS [(.slice x2.a x2.n x2.c)] [.slice] fun r49 =>
          C.call n_spec_CommitMap [(.agg r45), (.slice r47.a r47.n r47.c), (.slice r49.a r49.n r49.c), (.string x3)] [.agg, .agg, (.int .i64)] fun r51 =>
          C.new ty_impl_Book (.agg (#[(.slice none 0 0), (.slice none 0 0)])) fun b10 =>
          C.new ty_impl_Key (.agg (Array.replicate 32 (.int .u8 0))) fun b11 =>
          C.st 2 (Addr.mk b10 0 none) (.agg r51.1) <|
          C.st 32 (Addr.mk b11 0 none) (.agg r51.2.1) <|
          C.ld .agg 2 (Addr.mk b4 0 none) fun v55 =>
          C.call n_laws_toBook [(.agg v55)] [.agg] fun r56 =>
          C.new ty_impl_Book (.agg (#[(.slice none 0 0), (.slice none 0 0)])) fun b13 =>
          C.st 2 (Addr.mk b13 0 none) (.agg r56) <|
          C.call n_laws_toKeyS [(.slice x1.a x1.n x1.c)] [.slice] fun r58 =>
          C.call n_laws_toEntryS [(.slice x2.a x2.n x2.c)] [.slice] fun r60 =>
          C.ld .agg 2 (Addr.mk b13 0 none) fun v62 =>
          C.call n_impl_CommitMap [(.agg v62), (.slice r58.a r58.n r58.c), (.slice r60.a r60.n r60.c), (.string x3)] [.agg, .agg, (.int .i64)] fun r66 =>
          C.new ty_impl_Book (.agg (#[(.slice none 0 0), (.slice none 0 0)])) fun b16 =>
          C.new ty_impl_Key (.agg (Array.replicate 32 (.int .u8 0))) fun b17 =>
          C.st 2 (Addr.mk b16 0 none) (.agg r66.1) <|
          C.st 32 (Addr.mk b17 0 none) (.agg r66.2.1) <|
          C.join (TL []) (embL []) (fun s28 => C.any fun _ =>
              C.join (TL []) (embL []) (fun s33 => C.any fun _ =>
                  C.call n_laws_toKeyS [(.slice x1.a x1.n x1.c)] [.slice] fun r92 =>
                  C.call n_laws_eqKeyS [(.slice r58.a r58.n r58.c), (.slice r92.a r92.n r92.c)] [.bool] fun r93 =>
                  cond (!r93) (
                    C.ret (.bool false)
                  ) (
                    C.call n_laws_toEntryS [(.slice x2.a x2.n x2.c)] [.slice] fun r97 =>
                    C.call n_laws_eqEntryS [(.slice r60.a r60.n r60.c), (.slice r97.a r97.n r97.c)] [.bool] fun r98 =>
                    cond (!r98) (
                      C.ret (.bool false)
                    ) (
                      C.ld .agg 2 (Addr.mk b13 0 none) fun v100 =>
                      C.call n_laws_markBook [(.agg v100), (.int .i64 1)] [(.int .i64)] fun r102 =>
                      C.call n_laws_markKeyS [(.slice r58.a r58.n r58.c), (.int .i64 r102)] [(.int .i64)] fun r105 =>
                      C.call n_laws_markEntryS [(.slice r60.a r60.n r60.c), (.int .i64 r105)] [(.int .i64)] fun r108 =>
                      C.join (TL []) (embL []) (fun s48 => C.any fun _ =>
                          C.ld .agg 2 (Addr.mk b16 0 none) fun v128 =>
                          C.call n_laws_markBook [(.agg v128), (.int .i64 1)] [(.int .i64)] fun r130 =>
                          C.ld .agg 2 (Addr.mk b16 0 none) fun v131 =>
                          C.call n_laws_heldBook [(.agg v131), (.int .i64 1)] [(.int .i64)] fun r133 =>
                          cond (decide (r133 < 0)) (
                            C.ret (.bool false)
                          ) (
                            cond (r133 != r130) (
                              C.ret (.bool false)
                            ) (
                              C.ld .agg 2 (Addr.mk b4 0 none) fun v140 =>
                              C.call n_laws_toBook [(.agg v140)] [.agg] fun r141 =>
                              C.call n_laws_toKeyS [(.slice x1.a x1.n x1.c)] [.slice] fun r143 =>
                              C.call n_laws_toEntryS [(.slice x2.a x2.n x2.c)] [.slice] fun r145 =>
                              C.call n_impl_CommitMap [(.agg r141), (.slice r143.a r143.n r143.c), (.slice r145.a r145.n r145.c), (.string x3)] [.agg, .agg, (.int .i64)] fun r147 =>
                              C.new ty_impl_Book (.agg (#[(.slice none 0 0), (.slice none 0 0)])) fun b22 =>
                              C.new ty_impl_Key (.agg (Array.replicate 32 (.int .u8 0))) fun b23 =>
                              C.st 2 (Addr.mk b22 0 none) (.agg r147.1) <|
                              C.st 32 (Addr.mk b23 0 none) (.agg r147.2.1) <|
                              C.join (TL []) (embL []) (fun s66 => C.any fun _ =>
                                  C.ld .agg 2 (Addr.mk b16 0 none) fun v166 =>
                                  C.call n_laws_heldBook [(.agg v166), (.int .i64 1)] [(.int .i64)] fun r168 =>
                                  cond (decide (r168 < 0)) (
                                    C.ret (.bool false)
                                  ) (
                                    cond (r168 != r130) (
                                      C.ret (.bool false)
                                    ) (
                                      C.ret (.bool true)
                                    )
                                  )
                                ) fun jt =>
                              C.ld .agg 2 (Addr.mk b22 0 none) fun v151 =>
                              C.ld .agg 2 (Addr.mk b10 0 none) fun v152 =>
                              C.call n_laws_eqBook [(.agg v151), (.agg v152)] [.bool] fun r153 =>
                              cond (!r153) (
                                C.ret (.bool false)
                              ) (
                                C.ld .agg 32 (Addr.mk b23 0 none) fun v156 =>
                                C.ld .agg 32 (Addr.mk b11 0 none) fun v157 =>
                                C.call n_laws_eqKey [(.agg v156), (.agg v157)] [.bool] fun r158 =>
                                cond (!r158) (
                                  C.ret (.bool false)
                                ) (
                                  cond (r147.2.2 != r51.2.2) (
                                    C.ret (.bool false)
                                  ) (
                                    jt []
                                  )
                                )
                              )
                            )
                          )
                        ) fun jt =>
                      cond (decide (r108 < 0)) (
                        C.ret (.bool false)
                      ) (
                        C.ld .agg 2 (Addr.mk b16 0 none) fun v112 =>
                        C.ld .agg 2 (Addr.mk b10 0 none) fun v113 =>
                        C.call n_laws_eqBook [(.agg v112), (.agg v113)] [.bool] fun r114 =>
                        cond (!r114) (
                          C.ret (.bool false)
                        ) (
                          C.ld .agg 32 (Addr.mk b17 0 none) fun v118 =>
                          C.ld .agg 32 (Addr.mk b11 0 none) fun v119 =>
                          C.call n_laws_eqKey [(.agg v118), (.agg v119)] [.bool] fun r120 =>
                          cond (!r120) (
                            C.ret (.bool false)
                          ) (
                            cond (r66.2.2 != r51.2.2) (
                              C.ret (.bool false)
                            ) (
                              jt []
                            )
                          )
                        )
                      )
                    )
                  )
                ) fun jt =>
              C.draw <|
              C.ld .agg 2 (Addr.mk b13 0 none) fun v85 =>
              C.ld .agg 2 (Addr.mk b4 0 none) fun v86 =>
              C.call n_laws_toBook [(.agg v86)] [.agg] fun r87 =>
              C.chk [⟨0, 2, (Addr.mk b13 0 none), .agg, v85⟩] <|
              C.call n_laws_eqBook [(.agg v85), (.agg r87)] [.bool] fun r88 =>
              cond (!r88) (
                C.ret (.bool false)
              ) (
                jt []
              )
            ) fun jt =>
          C.ld .agg 2 (Addr.mk b16 0 none) fun v70 =>
          C.ld .agg 2 (Addr.mk b10 0 none) fun v71 =>
          C.call n_laws_eqBook [(.agg v70), (.agg v71)] [.bool] fun r72 =>
          cond (!r72) (
            C.ret (.bool false)
          ) (
            C.ld .agg 32 (Addr.mk b17 0 none) fun v75 =>
            C.ld .agg 32 (Addr.mk b11 0 none) fun v76 =>
            C.call n_laws_eqKey [(.agg v75), (.agg v76)] [.bool] fun r77 =>
            cond (!r77) (
              C.ret (.bool false)
            ) (
              cond (r66.2.2 != r51.2.2) (
                C.ret (.bool false)
              ) (
                jt []
              )
            )
          )
        )
      )
    )
  )
theorem laws_FnExactCommitMap_eq (C : Comb) (x0 : Array Value) (x1 : Sl) (x2 : Sl) (x3 : ByteArray) : fT C Tryz.prog { loop := [], join := [(252, []), (267, []), (381, []), (495, [])], anyOrder := [20], pure := [] } n_laws_FnExactCommitMap [(.agg x0), (.slice x1.a x1.n x1.c), (.slice x2.a x2.n x2.c), (.string x3)] = laws_FnExactCommitMap C x0 x1 x2 x3 := by kernel_rfl
theorem laws_FnExactCommitMap_calls {R : Value → World → Prop} {w : World} (x0 : Array Value) (x1 : Sl) (x2 : Sl) (x3 : ByteArray) (h : (laws_FnExactCommitMap (real Tryz.prog R) x0 x1 x2 x3 : World → Prop) w) :
    Calls Tryz.prog n_laws_FnExactCommitMap [(.agg x0), (.slice x1.a x1.n x1.c), (.slice x2.a x2.n x2.c), (.string x3)].toArray w fun e w' => ∃ v, e = .returned v ∧ R v w' := fT_sound mixed { loop := [], join := [(252, []), (267, []), (381, []), (495, [])], anyOrder := [20], pure := [] } (by rw [laws_FnExactCommitMap_eq]; exact h)

/-- laws.szBook (30) -/
def laws_szBook (C : Comb) (x0 : Array Value) (x1 : Int) : C.St :=
  C.new ty_laws_Book (.agg x0) fun b2 =>
  C.ld .slice 1 ((Addr.mk b2 0 none).add 0) fun v6 =>
  C.call n_laws_szCommitS [(.slice v6.a v6.n v6.c), (.int .i64 x1)] [(.int .i64)] fun r8 =>
  cond (decide (r8 < 0)) (
    C.ret (.int .i64 (-1))
  ) (
    C.ld .slice 1 ((Addr.mk b2 0 none).add 1) fun v12 =>
    C.call n_laws_szEntrySS [(.slice v12.a v12.n v12.c), (.int .i64 r8)] [(.int .i64)] fun r14 =>
    cond (decide (r14 < 0)) (
      C.ret (.int .i64 (-1))
    ) (
      C.ret (.int .i64 r14)
    )
  )
theorem laws_szBook_eq (C : Comb) (x0 : Array Value) (x1 : Int) : fT C Tryz.prog { loop := [], join := [], anyOrder := [], pure := [] } n_laws_szBook [(.agg x0), (.int .i64 x1)] = laws_szBook C x0 x1 := by kernel_rfl
theorem laws_szBook_calls {R : Value → World → Prop} {w : World} (x0 : Array Value) (x1 : Int) (h : (laws_szBook (real Tryz.prog R) x0 x1 : World → Prop) w) :
    Calls Tryz.prog n_laws_szBook [(.agg x0), (.int .i64 x1)].toArray w fun e w' => ∃ v, e = .returned v ∧ R v w' := fT_sound mixed { loop := [], join := [], anyOrder := [], pure := [] } (by rw [laws_szBook_eq]; exact h)

/-- laws.toBook (32) -/
def laws_toBook (C : Comb) (x0 : Array Value) : C.St :=
  C.new ty_laws_Book (.agg x0) fun b1 =>
  C.new ty_impl_Book (.agg (#[(.slice none 0 0), (.slice none 0 0)])) fun b2 =>
  C.new ty_impl_Book (.agg (#[(.slice none 0 0), (.slice none 0 0)])) fun b3 =>
  C.ld .slice 1 ((Addr.mk b1 0 none).add 0) fun v5 =>
  C.call n_laws_toCommitS [(.slice v5.a v5.n v5.c)] [.slice] fun r6 =>
  C.st 1 ((Addr.mk b3 0 none).add 0) (.slice r6.a r6.n r6.c) <|
  C.ld .slice 1 ((Addr.mk b1 0 none).add 1) fun v9 =>
  C.call n_laws_toEntrySS [(.slice v9.a v9.n v9.c)] [.slice] fun r10 =>
  C.st 1 ((Addr.mk b3 0 none).add 1) (.slice r10.a r10.n r10.c) <|
  C.ld .agg 2 (Addr.mk b3 0 none) fun v12 =>
  C.st 2 (Addr.mk b2 0 none) (.agg v12) <|
  C.ld .agg 2 (Addr.mk b2 0 none) fun z9 =>
  C.ret (.agg z9)
theorem laws_toBook_eq (C : Comb) (x0 : Array Value) : fT C Tryz.prog { loop := [], join := [], anyOrder := [], pure := [] } n_laws_toBook [(.agg x0)] = laws_toBook C x0 := by kernel_rfl
theorem laws_toBook_calls {R : Value → World → Prop} {w : World} (x0 : Array Value) (h : (laws_toBook (real Tryz.prog R) x0 : World → Prop) w) :
    Calls Tryz.prog n_laws_toBook [(.agg x0)].toArray w fun e w' => ∃ v, e = .returned v ∧ R v w' := fT_sound mixed { loop := [], join := [], anyOrder := [], pure := [] } (by rw [laws_toBook_eq]; exact h)

/-- laws.toKey (33) -/
def laws_toKey (C : Comb) (x0 : Array Value) : C.St :=
  C.new ty_arr32_uint8 (.agg x0) fun b1 =>
  C.new ty_impl_Key (.agg (Array.replicate 32 (.int .u8 0))) fun b2 =>
  C.new ty_impl_Key (.agg (Array.replicate 32 (.int .u8 0))) fun b3 =>
  C.loop (TL [(.int .i64)]) (embL [(.int .i64)]) [(.int .i64 0)] fun s4 ct4 => C.any fun _ =>
  cond (decide (s4 < 32)) (
    C.ix (some (Addr.mk b1 0 none)) 32 1 s4 fun p11 =>
    C.ld (.int .u8) 1 p11 fun v12 =>
    C.ix (some (Addr.mk b3 0 none)) 32 1 s4 fun p13 =>
    C.st 1 p13 (.int .u8 v12) <|
    ct4 [(.int .i64 (IntKind.wrap .i64 (s4 + 1)))]
  ) (
    C.ld .agg 32 (Addr.mk b3 0 none) fun v14 =>
    C.st 32 (Addr.mk b2 0 none) (.agg v14) <|
    C.ld .agg 32 (Addr.mk b2 0 none) fun z9 =>
    C.ret (.agg z9)
  )
theorem laws_toKey_eq (C : Comb) (x0 : Array Value) : fT C Tryz.prog { loop := [(3, [(4, (.int .i64))])], join := [], anyOrder := [], pure := [] } n_laws_toKey [(.agg x0)] = laws_toKey C x0 := by kernel_rfl
theorem laws_toKey_calls {R : Value → World → Prop} {w : World} (x0 : Array Value) (h : (laws_toKey (real Tryz.prog R) x0 : World → Prop) w) :
    Calls Tryz.prog n_laws_toKey [(.agg x0)].toArray w fun e w' => ∃ v, e = .returned v ∧ R v w' := fT_sound mixed { loop := [(3, [(4, (.int .i64))])], join := [], anyOrder := [], pure := [] } (by rw [laws_toKey_eq]; exact h)

/-- laws.eqBook (36) -/
def laws_eqBook (C : Comb) (x0 : Array Value) (x1 : Array Value) : C.St :=
  C.new ty_impl_Book (.agg x0) fun b2 =>
  C.new ty_impl_Book (.agg x1) fun b3 =>
  C.ld .slice 1 ((Addr.mk b2 0 none).add 0) fun v6 =>
  C.ld .slice 1 ((Addr.mk b3 0 none).add 0) fun v8 =>
  C.call n_laws_eqCommitS [(.slice v6.a v6.n v6.c), (.slice v8.a v8.n v8.c)] [.bool] fun r9 =>
  cond (!r9) (
    C.ret (.bool false)
  ) (
    C.ld .slice 1 ((Addr.mk b2 0 none).add 1) fun v12 =>
    C.ld .slice 1 ((Addr.mk b3 0 none).add 1) fun v14 =>
    C.call n_laws_eqEntrySS [(.slice v12.a v12.n v12.c), (.slice v14.a v14.n v14.c)] [.bool] fun r15 =>
    cond (!r15) (
      C.ret (.bool false)
    ) (
      C.ret (.bool true)
    )
  )
theorem laws_eqBook_eq (C : Comb) (x0 : Array Value) (x1 : Array Value) : fT C Tryz.prog { loop := [], join := [], anyOrder := [], pure := [] } n_laws_eqBook [(.agg x0), (.agg x1)] = laws_eqBook C x0 x1 := by kernel_rfl
theorem laws_eqBook_calls {R : Value → World → Prop} {w : World} (x0 : Array Value) (x1 : Array Value) (h : (laws_eqBook (real Tryz.prog R) x0 x1 : World → Prop) w) :
    Calls Tryz.prog n_laws_eqBook [(.agg x0), (.agg x1)].toArray w fun e w' => ∃ v, e = .returned v ∧ R v w' := fT_sound mixed { loop := [], join := [], anyOrder := [], pure := [] } (by rw [laws_eqBook_eq]; exact h)

/-- laws.markBook (37) -/
def laws_markBook (C : Comb) (x0 : Array Value) (x1 : Int) : C.St :=
  C.new ty_impl_Book (.agg x0) fun b2 =>
  C.ld .slice 1 ((Addr.mk b2 0 none).add 0) fun v6 =>
  C.call n_laws_markCommitS [(.slice v6.a v6.n v6.c), (.int .i64 x1)] [(.int .i64)] fun r8 =>
  C.ld .slice 1 ((Addr.mk b2 0 none).add 1) fun v10 =>
  C.call n_laws_markEntrySS [(.slice v10.a v10.n v10.c), (.int .i64 r8)] [(.int .i64)] fun r12 =>
  C.ret (.int .i64 r12)
theorem laws_markBook_eq (C : Comb) (x0 : Array Value) (x1 : Int) : fT C Tryz.prog { loop := [], join := [], anyOrder := [], pure := [] } n_laws_markBook [(.agg x0), (.int .i64 x1)] = laws_markBook C x0 x1 := by kernel_rfl
theorem laws_markBook_calls {R : Value → World → Prop} {w : World} (x0 : Array Value) (x1 : Int) (h : (laws_markBook (real Tryz.prog R) x0 x1 : World → Prop) w) :
    Calls Tryz.prog n_laws_markBook [(.agg x0), (.int .i64 x1)].toArray w fun e w' => ∃ v, e = .returned v ∧ R v w' := fT_sound mixed { loop := [], join := [], anyOrder := [], pure := [] } (by rw [laws_markBook_eq]; exact h)

end Go.Proofs.YtaadgdbegpmlmaaGreat
