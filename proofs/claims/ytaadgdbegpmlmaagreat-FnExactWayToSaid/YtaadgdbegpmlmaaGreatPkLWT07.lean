/- Printed by a program of this claim's author: each Go function as a Lean function over abstract combinators, and the equation that says that T makes it of the loaded code. -/
import Derived.Test.YtaadgdbegpmlmaaGreatProg
import Derived.Test.YtaadgdbegpmlmaaGreatPkLWT02
namespace Go.Proofs.YtaadgdbegpmlmaaGreat
open Go.Sx
theorem mixed : Tryz.prog.follows .mixedOrders = true := by kernel_rfl

abbrev n_laws_FnExactWayTo : Nat := 10
abbrev n_impl_WayTo : Nat := 23
abbrev n_laws_szBook : Nat := 30
abbrev n_laws_toBook : Nat := 32
abbrev n_laws_toKey : Nat := 33
abbrev n_laws_eqBook : Nat := 36
abbrev n_laws_markBook : Nat := 37
abbrev n_impl_ValidCommit : Nat := 62
abbrev n_laws_eqKeyS : Nat := 69
abbrev n_laws_markKeyS : Nat := 70
abbrev n_laws_heldKeyS : Nat := 71
abbrev n_spec_WayTo : Nat := 72
abbrev n_laws_szKeyS : Nat := 74
abbrev n_laws_szEntryS : Nat := 75
abbrev n_laws_toKeyS : Nat := 76
abbrev n_laws_toEntryS : Nat := 77
abbrev n_laws_eqKey : Nat := 78
abbrev n_laws_eqEntryS : Nat := 79
abbrev n_laws_markEntryS : Nat := 80
abbrev n_impl_open : Nat := 96
abbrev n_impl_sorted : Nat := 97
abbrev n_slices_Clone_sl_impl_Key_impl_Key : Nat := 99
abbrev n_slices_Contains_sl_impl_Key_impl_Key : Nat := 103
abbrev n_spec_l07Ok : Nat := 104
abbrev n_spec_l07Key : Nat := 105
abbrev n_ptr_impl_ledger_ancestors : Nat := 106
abbrev n_ptr_impl_ledger_isAncestor : Nat := 108
abbrev n_slices_CompareFunc_sl_impl_Key_sl_impl_Key_impl_Key_impl_Key : Nat := 109
abbrev n_impl_compareKeys : Nat := 110
abbrev n_spec_l07At : Nat := 112
abbrev n_spec_l01Compare : Nat := 114
abbrev n_spec_l07Two : Nat := 115
abbrev n_spec_l01Has : Nat := 116
abbrev n_laws_szCommitS : Nat := 117
abbrev n_laws_szEntrySS : Nat := 118
abbrev n_laws_toCommitS : Nat := 120
abbrev n_laws_toEntrySS : Nat := 121
abbrev n_laws_eqCommitS : Nat := 124
abbrev n_laws_eqEntrySS : Nat := 125
abbrev n_laws_markCommitS : Nat := 126
abbrev n_laws_markEntrySS : Nat := 127
abbrev n_laws_markText : Nat := 128
abbrev n_impl_newLedger : Nat := 148
abbrev n_impl_Commit_data : Nat := 153
abbrev n_impl_Commit_key : Nat := 155
abbrev n_spec_l01Hash : Nat := 156
abbrev n_ptr_impl_ledger_at : Nat := 157
abbrev n_impl_within : Nat := 159
abbrev n_impl_ValidEntries : Nat := 161
abbrev n_spec_l07Book : Nat := 163
abbrev n_spec_l07Keys : Nat := 167
abbrev n_spec_l07Find : Nat := 169
abbrev n_spec_l07Sooner : Nat := 170
abbrev n_laws_szEntry : Nat := 172
abbrev n_laws_toEntry : Nat := 173
abbrev n_laws_eqEntry : Nat := 174
abbrev n_ptr_impl_ledger_find : Nat := 198
abbrev n_slices_SortFunc_sl_impl_Key_impl_Key : Nat := 199
abbrev n_slices_Compact_sl_impl_Key_impl_Key : Nat := 200
abbrev n_slices_Index_sl_impl_Key_impl_Key : Nat := 203
abbrev n_spec_l00In : Nat := 204
abbrev n_spec_l07Data : Nat := 205
abbrev n_slices_Compare_sl_byte_byte : Nat := 210
abbrev n_laws_szCommit : Nat := 211
abbrev n_laws_toCommit : Nat := 213
abbrev n_laws_eqCommit : Nat := 215
abbrev n_impl_treeOf : Nat := 240
abbrev n_ptr_impl_tree_key : Nat := 241
abbrev n_ptr_impl_ledger_number : Nat := 242
abbrev n_impl_hash : Nat := 245
abbrev n_spec_l01End : Nat := 246
abbrev n_spec_l01Start : Nat := 247
abbrev n_impl_ValidEntry : Nat := 248
abbrev n_spec_MapKey : Nat := 250
abbrev n_spec_l07Number : Nat := 251
abbrev n_spec_l04Ok : Nat := 252
abbrev n_impl_EmptyMapKey : Nat := 258
abbrev n_spec_l04Empty : Nat := 262
abbrev n_spec_l07Add : Nat := 271
abbrev n_cmp_Compare_byte : Nat := 272
abbrev n_spec_l04Nodes : Nat := 274
abbrev n_spec_l04Bytes : Nat := 276
abbrev n_impl_grow : Nat := 289
abbrev n_impl_MapNode_key : Nat := 290
abbrev n_impl_blocks : Nat := 291
abbrev n_slices_Concat_sl_byte_byte : Nat := 292
abbrev n_impl_padding : Nat := 293
abbrev n_impl_size_byte : Nat := 294
abbrev n_impl_keyOf : Nat := 295
abbrev n_impl_mixed : Nat := 296
abbrev n_impl_StartState : Nat := 297
abbrev n_spec_l01Padded : Nat := 298
abbrev n_spec_l01Mix : Nat := 299
abbrev n_spec_l01Block : Nat := 300
abbrev n_impl_isName : Nat := 301
abbrev n_spec_l00Max : Nat := 302
abbrev n_spec_l04Entry : Nat := 303
abbrev n_cmp_isNaN_byte : Nat := 317
abbrev n_spec_l04Top : Nat := 318
abbrev n_spec_l04NodeKey : Nat := 319
abbrev n_impl_MapNode_bytes : Nat := 324
abbrev n_slices_Grow_sl_byte_byte : Nat := 325
abbrev n_impl_appendLittle : Nat := 326
abbrev n_impl_MixBlock : Nat := 327
abbrev n_spec_l01Turn : Nat := 328
abbrev n_spec_l04Name : Nat := 329
abbrev n_spec_l04Priority : Nat := 336
abbrev n_impl_littleNumber : Nat := 337
abbrev n_math_bits_RotateLeft32 : Nat := 338
abbrev ty_x : Nat := 0
abbrev ty_int64 : Nat := 2
abbrev ty_int : Nat := 3
abbrev ty_bool : Nat := 4
abbrev ty_uint8 : Nat := 5
abbrev ty_string : Nat := 9
abbrev ty_sl_uint8 : Nat := 22
abbrev ty_sl_impl_Commit : Nat := 24
abbrev ty_sl_sl_impl_Entry : Nat := 25
abbrev ty_impl_Book : Nat := 27
abbrev ty_sl_impl_Key : Nat := 29
abbrev ty_arr32_uint8 : Nat := 33
abbrev ty_impl_Key : Nat := 34
abbrev ty_impl_Commit : Nat := 38
abbrev ty_sl_laws_Commit : Nat := 48
abbrev ty_sl_sl_laws_Entry : Nat := 49
abbrev ty_laws_Book : Nat := 51
abbrev ty_impl_Lease : Nat := 73
abbrev ty_sl_impl_Entry : Nat := 88
abbrev ty_sl_arr32_uint8 : Nat := 94
abbrev ty_sl_laws_Entry : Nat := 95
abbrev ty_impl_Blob : Nat := 110
abbrev ty_impl_ledger : Nat := 125
abbrev ty_map_impl_Key_sl_impl_Key : Nat := 133
abbrev ty_spec_l05Store : Nat := 165
abbrev ty_map_impl_Key_bool : Nat := 168
abbrev ty_impl_shop : Nat := 178
abbrev ty_sl_sl_impl_Key : Nat := 208
abbrev ty_laws_Entry : Nat := 213
abbrev ty_impl_Entry : Nat := 214
abbrev ty_uint64 : Nat := 242
abbrev ty_laws_Commit : Nat := 254
abbrev ty_sl_sl_uint8 : Nat := 262
abbrev ty_ptr_impl_tree : Nat := 279
abbrev ty_uint32 : Nat := 284
abbrev ty_arr8_uint32 : Nat := 285
abbrev ty_impl_MapNode : Nat := 294
abbrev ty_sl_impl_MapNode : Nat := 310
abbrev ty_impl_tree : Nat := 328
/-- laws.FnExactWayTo (10) -/
def laws_FnExactWayTo (C : Comb) (x0 : Array Value) (x1 : Array Value) (x2 : Array Value) : C.St :=
  C.new ty_laws_Book (.agg x0) fun b3 =>
  C.new ty_arr32_uint8 (.agg x1) fun b4 =>
  C.new ty_arr32_uint8 (.agg x2) fun b5 =>
  C.ld .agg 2 (Addr.mk b3 0 none) fun v18 =>
  C.call n_laws_szBook [(.agg v18), (.int .i64 1048576)] [(.int .i64)] fun r20 =>
  cond (decide (r20 < 0)) (
    C.ret (.bool true)
  ) (
    C.join (TL [.slice, (.int .i64)]) (embL [.slice, (.int .i64)]) (fun s13 => C.any fun _ =>
        C.ld .agg 2 (Addr.mk b3 0 none) fun v33 =>
        C.call n_laws_toBook [(.agg v33)] [.agg] fun r34 =>
        C.new ty_impl_Book (.agg (#[(.slice none 0 0), (.slice none 0 0)])) fun b10 =>
        C.st 2 (Addr.mk b10 0 none) (.agg r34) <|
        C.join (TL [.slice, (.int .i64)]) (embL [.slice, (.int .i64)]) (fun s23 => C.any fun _ =>
            C.join (TL []) (embL []) (fun s25 => C.any fun _ =>
                C.join (TL []) (embL []) (fun s30 => C.any fun _ =>
                    C.ld .agg 2 (Addr.mk b10 0 none) fun v58 =>
                    C.call n_laws_markBook [(.agg v58), (.int .i64 1)] [(.int .i64)] fun r60 =>
                    C.join (TL []) (embL []) (fun s34 => C.any fun _ =>
                        C.call n_laws_markKeyS [(.slice s23.1.a s23.1.n s23.1.c), (.int .i64 1)] [(.int .i64)] fun r76 =>
                        C.call n_laws_heldKeyS [(.slice s23.1.a s23.1.n s23.1.c), (.int .i64 1)] [(.int .i64)] fun r79 =>
                        cond (decide (r79 < 0)) (
                          C.ret (.bool false)
                        ) (
                          cond (r79 != r76) (
                            C.ret (.bool false)
                          ) (
                            C.join (TL [.slice, (.int .i64)]) (embL [.slice, (.int .i64)]) (fun s44 => C.any fun _ =>
                                C.join (TL []) (embL []) (fun s46 => C.any fun _ =>
                                    C.call n_laws_heldKeyS [(.slice s23.1.a s23.1.n s23.1.c), (.int .i64 1)] [(.int .i64)] fun r106 =>
                                    cond (decide (r106 < 0)) (
                                      C.ret (.bool false)
                                    ) (
                                      cond (r106 != r76) (
                                        C.ret (.bool false)
                                      ) (
                                        C.ret (.bool true)
                                      )
                                    )
                                  ) fun jt =>
                                C.call n_laws_eqKeyS [(.slice s44.1.a s44.1.n s44.1.c), (.slice s13.1.a s13.1.n s13.1.c)] [.bool] fun r97 =>
                                cond (!r97) (
                                  C.ret (.bool false)
                                ) (
                                  cond (s44.2 != s13.2) (
                                    C.ret (.bool false)
                                  ) (
                                    jt []
                                  )
                                )
                              ) fun jt =>
                            C.draw <|
                            C.ld .agg 2 (Addr.mk b3 0 none) fun v86 =>
                            C.ld .agg 32 (Addr.mk b4 0 none) fun v88 =>
                            C.ld .agg 32 (Addr.mk b5 0 none) fun v90 =>
                            C.call n_laws_toBook [(.agg v86)] [.agg] fun r87 =>
                            C.chk [⟨4, 32, (Addr.mk b5 0 none), .agg, v90⟩, ⟨2, 32, (Addr.mk b4 0 none), .agg, v88⟩] <|
                            C.call n_laws_toKey [(.agg v88)] [.agg] fun r89 =>
                            C.chk [⟨4, 32, (Addr.mk b5 0 none), .agg, v90⟩] <|
                            C.call n_laws_toKey [(.agg v90)] [.agg] fun r91 =>
                            C.call n_impl_WayTo [(.agg r87), (.agg r89), (.agg r91)] [.slice, (.int .i64)] fun r92 =>
                            jt [(.slice r92.1.a r92.1.n r92.1.c), (.int .i64 r92.2)]
                          )
                        )
                      ) fun jt =>
                    cond (decide (r60 < 0)) (
                      C.ret (.bool false)
                    ) (
                      C.call n_laws_eqKeyS [(.slice s23.1.a s23.1.n s23.1.c), (.slice s13.1.a s13.1.n s13.1.c)] [.bool] fun r66 =>
                      cond (!r66) (
                        C.ret (.bool false)
                      ) (
                        cond (s23.2 != s13.2) (
                          C.ret (.bool false)
                        ) (
                          jt []
                        )
                      )
                    )
                  ) fun jt =>
                C.draw <|
                C.ld .agg 2 (Addr.mk b10 0 none) fun v53 =>
                C.ld .agg 2 (Addr.mk b3 0 none) fun v54 =>
                C.call n_laws_toBook [(.agg v54)] [.agg] fun r55 =>
                C.chk [⟨0, 2, (Addr.mk b10 0 none), .agg, v53⟩] <|
                C.call n_laws_eqBook [(.agg v53), (.agg r55)] [.bool] fun r56 =>
                cond (!r56) (
                  C.ret (.bool false)
                ) (
                  jt []
                )
              ) fun jt =>
            C.call n_laws_eqKeyS [(.slice s23.1.a s23.1.n s23.1.c), (.slice s13.1.a s13.1.n s13.1.c)] [.bool] fun r46 =>
            cond (!r46) (
              C.ret (.bool false)
            ) (
              cond (s23.2 != s13.2) (
                C.ret (.bool false)
              ) (
                jt []
              )
            )
          ) fun jt =>
        C.draw <|
        C.ld .agg 2 (Addr.mk b10 0 none) fun v36 =>
        C.ld .agg 32 (Addr.mk b4 0 none) fun v37 =>
        C.ld .agg 32 (Addr.mk b5 0 none) fun v39 =>
        C.call n_laws_toKey [(.agg v37)] [.agg] fun r38 =>
        C.chk [⟨3, 32, (Addr.mk b5 0 none), .agg, v39⟩, ⟨0, 2, (Addr.mk b10 0 none), .agg, v36⟩] <|
        C.call n_laws_toKey [(.agg v39)] [.agg] fun r40 =>
        C.chk [⟨0, 2, (Addr.mk b10 0 none), .agg, v36⟩] <|
        C.call n_impl_WayTo [(.agg v36), (.agg r38), (.agg r40)] [.slice, (.int .i64)] fun r41 =>
        jt [(.slice r41.1.a r41.1.n r41.1.c), (.int .i64 r41.2)]
      ) fun jt =>
    C.draw <|
    C.ld .agg 2 (Addr.mk b3 0 none) fun v24 =>
    C.ld .agg 32 (Addr.mk b4 0 none) fun v26 =>
    C.ld .agg 32 (Addr.mk b5 0 none) fun v28 =>
    C.call n_laws_toBook [(.agg v24)] [.agg] fun r25 =>
    C.chk [⟨4, 32, (Addr.mk b5 0 none), .agg, v28⟩, ⟨2, 32, (Addr.mk b4 0 none), .agg, v26⟩] <|
    C.call n_laws_toKey [(.agg v26)] [.agg] fun r27 =>
    C.chk [⟨4, 32, (Addr.mk b5 0 none), .agg, v28⟩] <|
    C.call n_laws_toKey [(.agg v28)] [.agg] fun r29 =>
    C.call n_spec_WayTo [(.agg r25), (.agg r27), (.agg r29)] [.slice, (.int .i64)] fun r30 =>
    jt [(.slice r30.1.a r30.1.n r30.1.c), (.int .i64 r30.2)]
  )
theorem laws_FnExactWayTo_eq (C : Comb) (x0 : Array Value) (x1 : Array Value) (x2 : Array Value) : fT C Tryz.prog { loop := [], join := [(16, [(8, .slice), (9, (.int .i64))]), (22, [(11, .slice), (12, (.int .i64))]), (156, []), (171, []), (219, []), (73, [(16, .slice), (17, (.int .i64))]), (309, [])], anyOrder := [5, 7, 10, 24], pure := [] } n_laws_FnExactWayTo [(.agg x0), (.agg x1), (.agg x2)] = laws_FnExactWayTo C x0 x1 x2 := by kernel_rfl
theorem laws_FnExactWayTo_calls {R : Value → World → Prop} {w : World} (x0 : Array Value) (x1 : Array Value) (x2 : Array Value) (h : (laws_FnExactWayTo (real Tryz.prog R) x0 x1 x2 : World → Prop) w) :
    Calls Tryz.prog n_laws_FnExactWayTo [(.agg x0), (.agg x1), (.agg x2)].toArray w fun e w' => ∃ v, e = .returned v ∧ R v w' := fT_sound mixed { loop := [], join := [(16, [(8, .slice), (9, (.int .i64))]), (22, [(11, .slice), (12, (.int .i64))]), (156, []), (171, []), (219, []), (73, [(16, .slice), (17, (.int .i64))]), (309, [])], anyOrder := [5, 7, 10, 24], pure := [] } (by rw [laws_FnExactWayTo_eq]; exact h)

/-- impl.WayTo (23) -/
def impl_WayTo (C : Comb) (x0 : Array Value) (x1 : Array Value) (x2 : Array Value) : C.St :=
  C.new ty_impl_Book (.agg x0) fun b3 =>
  C.new ty_impl_Key (.agg x1) fun b4 =>
  C.new ty_impl_Key (.agg x2) fun b5 =>
  C.ld .agg 2 (Addr.mk b3 0 none) fun v21 =>
  C.ld .agg 32 (Addr.mk b4 0 none) fun v22 =>
  C.ld .agg 32 (Addr.mk b5 0 none) fun v23 =>
  C.sem (Instr.buildSlice ty_sl_impl_Key 2 #[(0, (.agg v22)), (1, (.agg v23))]) .slice fun y24 =>
  C.call n_impl_open [(.agg v21), (.slice y24.a y24.n y24.c)] [.optr, (.int .i64)] fun r25 =>
  C.join (TL [(.int .i64)]) (embL [(.int .i64)]) (fun s12 => C.any fun _ =>
      cond (s12 != 0) (
        C.ret (.tuple #[(.slice none 0 0), (.int .i64 s12)])
      ) (
        C.sem (Instr.makeMap ty_map_impl_Key_sl_impl_Key none) .val fun y40 =>
        C.ld .agg 32 (Addr.mk b4 0 none) fun v41 =>
        C.ld .agg 32 (Addr.mk b4 0 none) fun v42 =>
        C.sem (Instr.buildSlice ty_sl_impl_Key 1 #[(0, (.agg v42))]) .slice fun y43 =>
        C.eff (Instr.mapUpdate ty_map_impl_Key_sl_impl_Key y40 (.agg v41) (.slice y43.a y43.n y43.c)) <|
        C.ld .slice 1 ((Addr.mk b3 0 none).add 0) fun v46 =>
        C.loop (TL [(.int .i64)]) (embL [(.int .i64)]) [(.int .i64 0)] fun s18 ct18 => C.any fun _ =>
        cond (decide (s18 < (v46.n : Int))) (
          C.ix v46.a v46.n 35 s18 fun p51 =>
          C.ld .agg 35 p51 fun v52 =>
          C.new ty_impl_Commit (.agg (#[(.int .u8 0), (.int .u8 0), (.int .u8 0), (.int .u8 0), (.int .u8 0), (.int .u8 0), (.int .u8 0), (.int .u8 0), (.int .u8 0), (.int .u8 0), (.int .u8 0), (.int .u8 0), (.int .u8 0), (.int .u8 0), (.int .u8 0), (.int .u8 0), (.int .u8 0), (.int .u8 0), (.int .u8 0), (.int .u8 0), (.int .u8 0), (.int .u8 0), (.int .u8 0), (.int .u8 0), (.int .u8 0), (.int .u8 0), (.int .u8 0), (.int .u8 0), (.int .u8 0), (.int .u8 0), (.int .u8 0), (.int .u8 0), (.slice none 0 0), (.int .i64 0), (.string (⟨#[]⟩ : ByteArray))])) fun b12 =>
          C.st 35 (Addr.mk b12 0 none) (.agg v52) <|
          dpT C r25.1 fun a22 =>
          C.ld .slice 1 (a22.add 2) fun v56 =>
          C.ix v56.a v56.n 32 s18 fun p58 =>
          C.ld .agg 32 p58 fun v59 =>
          C.new ty_impl_Key (.agg (Array.replicate 32 (.int .u8 0))) fun b13 =>
          C.st 32 (Addr.mk b13 0 none) (.agg v59) <|
          C.ld .slice 1 ((Addr.mk b12 0 none).add 32) fun v61 =>
          C.loop (TL [(.int .i64)]) (embL [(.int .i64)]) [(.int .i64 0)] fun s28 ct28 => C.any fun _ =>
          cond (decide (s28 < (v61.n : Int))) (
            C.ix v61.a v61.n 32 s28 fun p65 =>
            C.ld .agg 32 p65 fun v66 =>
            C.new ty_impl_Key (.agg (Array.replicate 32 (.int .u8 0))) fun b15 =>
            C.st 32 (Addr.mk b15 0 none) (.agg v66) <|
            C.ld .agg 32 (Addr.mk b15 0 none) fun v69 =>
            C.semL (Instr.lookup ty_map_impl_Key_sl_impl_Key y40 (.agg v69) true) [.slice, .bool] fun y70 =>
            C.join (TL []) (embL []) (fun s37 => C.any fun _ =>
                C.join (TL [.slice]) (embL [.slice]) (fun s45 => C.any fun _ =>
                    C.ld .agg 32 (Addr.mk b13 0 none) fun v87 =>
                    C.semL (Instr.lookup ty_map_impl_Key_sl_impl_Key y40 (.agg v87) true) [.slice, .bool] fun y88 =>
                    cond (!y88.2) (
                      C.ld .agg 32 (Addr.mk b13 0 none) fun v114 =>
                      C.eff (Instr.mapUpdate ty_map_impl_Key_sl_impl_Key y40 (.agg v114) (.slice s45.a s45.n s45.c)) <|
                      ct28 [(.int .i64 (IntKind.wrap .i64 (s28 + 1)))]
                    ) (
                      cond (decide ((s45.n : Int) < (y88.1.n : Int))) (
                        C.ld .agg 32 (Addr.mk b13 0 none) fun v114 =>
                        C.eff (Instr.mapUpdate ty_map_impl_Key_sl_impl_Key y40 (.agg v114) (.slice s45.a s45.n s45.c)) <|
                        ct28 [(.int .i64 (IntKind.wrap .i64 (s28 + 1)))]
                      ) (
                        cond ((s45.n : Int) == (y88.1.n : Int)) (
                          C.call n_slices_CompareFunc_sl_impl_Key_sl_impl_Key_impl_Key_impl_Key [(.slice s45.a s45.n s45.c), (.slice y88.1.a y88.1.n y88.1.c), (.func (.func n_impl_compareKeys) #[] #[])] [(.int .i64)] fun r109 =>
                          cond (decide (r109 < 0)) (
                            C.ld .agg 32 (Addr.mk b13 0 none) fun v114 =>
                            C.eff (Instr.mapUpdate ty_map_impl_Key_sl_impl_Key y40 (.agg v114) (.slice s45.a s45.n s45.c)) <|
                            ct28 [(.int .i64 (IntKind.wrap .i64 (s28 + 1)))]
                          ) (
                            ct28 [(.int .i64 (IntKind.wrap .i64 (s28 + 1)))]
                          )
                        ) (
                          ct28 [(.int .i64 (IntKind.wrap .i64 (s28 + 1)))]
                        )
                      )
                    )
                  ) fun jt =>
                C.draw <|
                C.ld .agg 32 (Addr.mk b13 0 none) fun v82 =>
                C.all [
                  (C.call n_slices_Clone_sl_impl_Key_impl_Key [(.slice y70.1.a y70.1.n y70.1.c)] [.slice] fun r81 =>
                   C.chk [⟨2, 32, (Addr.mk b13 0 none), .agg, v82⟩] <|
                   C.sem (Instr.buildSlice ty_sl_impl_Key 1 #[(0, (.agg v82))]) .slice fun y83 =>
                   C.sem (Builtin.append_ #[ty_sl_impl_Key, ty_sl_impl_Key] ty_sl_impl_Key #[(.slice r81.a r81.n r81.c), (.slice y83.a y83.n y83.c)]) .slice fun y84 =>
                   jt [(.slice y84.a y84.n y84.c)]),
                  (C.sem (Instr.buildSlice ty_sl_impl_Key 1 #[(0, (.agg v82))]) .slice fun y83 =>
                   C.call n_slices_Clone_sl_impl_Key_impl_Key [(.slice y70.1.a y70.1.n y70.1.c)] [.slice] fun r81 =>
                   C.sem (Builtin.append_ #[ty_sl_impl_Key, ty_sl_impl_Key] ty_sl_impl_Key #[(.slice r81.a r81.n r81.c), (.slice y83.a y83.n y83.c)]) .slice fun y84 =>
                   jt [(.slice y84.a y84.n y84.c)])]
              ) fun jt =>
            cond (!y70.2) (
              ct28 [(.int .i64 (IntKind.wrap .i64 (s28 + 1)))]
            ) (
              C.ld .agg 32 (Addr.mk b13 0 none) fun v76 =>
              C.ld .agg 32 (Addr.mk b4 0 none) fun v77 =>
              C.pur (eqB .eql ty_impl_Key (.tmp 76) (.tmp 77) (.agg v76) (.agg v77)) .bool fun y78 =>
              cond y78 (
                ct28 [(.int .i64 (IntKind.wrap .i64 (s28 + 1)))]
              ) (
                jt []
              )
            )
          ) (
            ct18 [(.int .i64 (IntKind.wrap .i64 (s18 + 1)))]
          )
        ) (
          C.ld .agg 32 (Addr.mk b5 0 none) fun v119 =>
          C.semL (Instr.lookup ty_map_impl_Key_sl_impl_Key y40 (.agg v119) false) [.slice] fun y120 =>
          C.ret (.tuple #[(.slice y120.a y120.n y120.c), (.int .i64 0)])
        )
      )
    ) fun jt =>
  cond (r25.2 == 0) (
    C.ld .agg 32 (Addr.mk b4 0 none) fun v32 =>
    C.ld .agg 32 (Addr.mk b5 0 none) fun v33 =>
    C.call n_ptr_impl_ledger_isAncestor [(.pointer r25.1), (.agg v32), (.agg v33)] [.bool] fun r34 =>
    cond (!r34) (
      jt [(.int .i64 4)]
    ) (
      jt [(.int .i64 r25.2)]
    )
  ) (
    jt [(.int .i64 r25.2)]
  )
theorem impl_WayTo_eq (C : Comb) (x0 : Array Value) (x1 : Array Value) (x2 : Array Value) : fT C Tryz.prog { loop := [(8, [(48, (.int .i64))]), (12, [(63, (.int .i64))])], join := [(108, [(9, (.int .i64))]), (237, []), (49, [(16, .slice)])], anyOrder := [16], pure := [] } n_impl_WayTo [(.agg x0), (.agg x1), (.agg x2)] = impl_WayTo C x0 x1 x2 := by kernel_rfl
theorem impl_WayTo_calls {R : Value → World → Prop} {w : World} (x0 : Array Value) (x1 : Array Value) (x2 : Array Value) (h : (impl_WayTo (real Tryz.prog R) x0 x1 x2 : World → Prop) w) :
    Calls Tryz.prog n_impl_WayTo [(.agg x0), (.agg x1), (.agg x2)].toArray w fun e w' => ∃ v, e = .returned v ∧ R v w' := fT_sound mixed { loop := [(8, [(48, (.int .i64))]), (12, [(63, (.int .i64))])], join := [(108, [(9, (.int .i64))]), (237, []), (49, [(16, .slice)])], anyOrder := [16], pure := [] } (by rw [impl_WayTo_eq]; exact h)

/-- laws.szBook (30) -/
def laws_szBook (C : Comb) (x0 : Array Value) (x1 : Int) : C.St :=
  C.new ty_laws_Book (.agg x0) fun b2 =>
  C.ld .slice 1 ((Addr.mk b2 0 none).add 0) fun v6 =>
  C.call n_laws_szCommitS [(.slice v6.a v6.n v6.c), (.int .i64 x1)] [(.int .i64)] fun r8 =>
  cond (decide (r8 < 0)) (
    C.ret (.int .i64 (-1))
  ) (
    C.ld .slice 1 ((Addr.mk b2 0 none).add 1) fun v12 =>
    C.call n_laws_szEntrySS [(.slice v12.a v12.n v12.c), (.int .i64 r8)] [(.int .i64)] fun r14 =>
    cond (decide (r14 < 0)) (
      C.ret (.int .i64 (-1))
    ) (
      C.ret (.int .i64 r14)
    )
  )
theorem laws_szBook_eq (C : Comb) (x0 : Array Value) (x1 : Int) : fT C Tryz.prog { loop := [], join := [], anyOrder := [], pure := [] } n_laws_szBook [(.agg x0), (.int .i64 x1)] = laws_szBook C x0 x1 := by kernel_rfl
theorem laws_szBook_calls {R : Value → World → Prop} {w : World} (x0 : Array Value) (x1 : Int) (h : (laws_szBook (real Tryz.prog R) x0 x1 : World → Prop) w) :
    Calls Tryz.prog n_laws_szBook [(.agg x0), (.int .i64 x1)].toArray w fun e w' => ∃ v, e = .returned v ∧ R v w' := fT_sound mixed { loop := [], join := [], anyOrder := [], pure := [] } (by rw [laws_szBook_eq]; exact h)

/-- laws.toBook (32) -/
def laws_toBook (C : Comb) (x0 : Array Value) : C.St :=
  C.new ty_laws_Book (.agg x0) fun b1 =>
  C.new ty_impl_Book (.agg (#[(.slice none 0 0), (.slice none 0 0)])) fun b2 =>
  C.new ty_impl_Book (.agg (#[(.slice none 0 0), (.slice none 0 0)])) fun b3 =>
  C.ld .slice 1 ((Addr.mk b1 0 none).add 0) fun v5 =>
  C.call n_laws_toCommitS [(.slice v5.a v5.n v5.c)] [.slice] fun r6 =>
  C.st 1 ((Addr.mk b3 0 none).add 0) (.slice r6.a r6.n r6.c) <|
  C.ld .slice 1 ((Addr.mk b1 0 none).add 1) fun v9 =>
  C.call n_laws_toEntrySS [(.slice v9.a v9.n v9.c)] [.slice] fun r10 =>
  C.st 1 ((Addr.mk b3 0 none).add 1) (.slice r10.a r10.n r10.c) <|
  C.ld .agg 2 (Addr.mk b3 0 none) fun v12 =>
  C.st 2 (Addr.mk b2 0 none) (.agg v12) <|
  C.ld .agg 2 (Addr.mk b2 0 none) fun z9 =>
  C.ret (.agg z9)
theorem laws_toBook_eq (C : Comb) (x0 : Array Value) : fT C Tryz.prog { loop := [], join := [], anyOrder := [], pure := [] } n_laws_toBook [(.agg x0)] = laws_toBook C x0 := by kernel_rfl
theorem laws_toBook_calls {R : Value → World → Prop} {w : World} (x0 : Array Value) (h : (laws_toBook (real Tryz.prog R) x0 : World → Prop) w) :
    Calls Tryz.prog n_laws_toBook [(.agg x0)].toArray w fun e w' => ∃ v, e = .returned v ∧ R v w' := fT_sound mixed { loop := [], join := [], anyOrder := [], pure := [] } (by rw [laws_toBook_eq]; exact h)

/-- laws.toKey (33) -/
def laws_toKey (C : Comb) (x0 : Array Value) : C.St :=
  C.new ty_arr32_uint8 (.agg x0) fun b1 =>
  C.new ty_impl_Key (.agg (Array.replicate 32 (.int .u8 0))) fun b2 =>
  C.new ty_impl_Key (.agg (Array.replicate 32 (.int .u8 0))) fun b3 =>
  C.loop (TL [(.int .i64)]) (embL [(.int .i64)]) [(.int .i64 0)] fun s4 ct4 => C.any fun _ =>
  cond (decide (s4 < 32)) (
    C.ix (some (Addr.mk b1 0 none)) 32 1 s4 fun p11 =>
    C.ld (.int .u8) 1 p11 fun v12 =>
    C.ix (some (Addr.mk b3 0 none)) 32 1 s4 fun p13 =>
    C.st 1 p13 (.int .u8 v12) <|
    ct4 [(.int .i64 (IntKind.wrap .i64 (s4 + 1)))]
  ) (
    C.ld .agg 32 (Addr.mk b3 0 none) fun v14 =>
    C.st 32 (Addr.mk b2 0 none) (.agg v14) <|
    C.ld .agg 32 (Addr.mk b2 0 none) fun z9 =>
    C.ret (.agg z9)
  )
theorem laws_toKey_eq (C : Comb) (x0 : Array Value) : fT C Tryz.prog { loop := [(3, [(4, (.int .i64))])], join := [], anyOrder := [], pure := [] } n_laws_toKey [(.agg x0)] = laws_toKey C x0 := by kernel_rfl
theorem laws_toKey_calls {R : Value → World → Prop} {w : World} (x0 : Array Value) (h : (laws_toKey (real Tryz.prog R) x0 : World → Prop) w) :
    Calls Tryz.prog n_laws_toKey [(.agg x0)].toArray w fun e w' => ∃ v, e = .returned v ∧ R v w' := fT_sound mixed { loop := [(3, [(4, (.int .i64))])], join := [], anyOrder := [], pure := [] } (by rw [laws_toKey_eq]; exact h)

/-- laws.eqBook (36) -/
def laws_eqBook (C : Comb) (x0 : Array Value) (x1 : Array Value) : C.St :=
  C.new ty_impl_Book (.agg x0) fun b2 =>
  C.new ty_impl_Book (.agg x1) fun b3 =>
  C.ld .slice 1 ((Addr.mk b2 0 none).add 0) fun v6 =>
  C.ld .slice 1 ((Addr.mk b3 0 none).add 0) fun v8 =>
  C.call n_laws_eqCommitS [(.slice v6.a v6.n v6.c), (.slice v8.a v8.n v8.c)] [.bool] fun r9 =>
  cond (!r9) (
    C.ret (.bool false)
  ) (
    C.ld .slice 1 ((Addr.mk b2 0 none).add 1) fun v12 =>
    C.ld .slice 1 ((Addr.mk b3 0 none).add 1) fun v14 =>
    C.call n_laws_eqEntrySS [(.slice v12.a v12.n v12.c), (.slice v14.a v14.n v14.c)] [.bool] fun r15 =>
    cond (!r15) (
      C.ret (.bool false)
    ) (
      C.ret (.bool true)
    )
  )
theorem laws_eqBook_eq (C : Comb) (x0 : Array Value) (x1 : Array Value) : fT C Tryz.prog { loop := [], join := [], anyOrder := [], pure := [] } n_laws_eqBook [(.agg x0), (.agg x1)] = laws_eqBook C x0 x1 := by kernel_rfl
theorem laws_eqBook_calls {R : Value → World → Prop} {w : World} (x0 : Array Value) (x1 : Array Value) (h : (laws_eqBook (real Tryz.prog R) x0 x1 : World → Prop) w) :
    Calls Tryz.prog n_laws_eqBook [(.agg x0), (.agg x1)].toArray w fun e w' => ∃ v, e = .returned v ∧ R v w' := fT_sound mixed { loop := [], join := [], anyOrder := [], pure := [] } (by rw [laws_eqBook_eq]; exact h)

/-- laws.markBook (37) -/
def laws_markBook (C : Comb) (x0 : Array Value) (x1 : Int) : C.St :=
  C.new ty_impl_Book (.agg x0) fun b2 =>
  C.ld .slice 1 ((Addr.mk b2 0 none).add 0) fun v6 =>
  C.call n_laws_markCommitS [(.slice v6.a v6.n v6.c), (.int .i64 x1)] [(.int .i64)] fun r8 =>
  C.ld .slice 1 ((Addr.mk b2 0 none).add 1) fun v10 =>
  C.call n_laws_markEntrySS [(.slice v10.a v10.n v10.c), (.int .i64 r8)] [(.int .i64)] fun r12 =>
  C.ret (.int .i64 r12)
theorem laws_markBook_eq (C : Comb) (x0 : Array Value) (x1 : Int) : fT C Tryz.prog { loop := [], join := [], anyOrder := [], pure := [] } n_laws_markBook [(.agg x0), (.int .i64 x1)] = laws_markBook C x0 x1 := by kernel_rfl
theorem laws_markBook_calls {R : Value → World → Prop} {w : World} (x0 : Array Value) (x1 : Int) (h : (laws_markBook (real Tryz.prog R) x0 x1 : World → Prop) w) :
    Calls Tryz.prog n_laws_markBook [(.agg x0), (.int .i64 x1)].toArray w fun e w' => ∃ v, e = .returned v ∧ R v w' := fT_sound mixed { loop := [], join := [], anyOrder := [], pure := [] } (by rw [laws_markBook_eq]; exact h)

end Go.Proofs.YtaadgdbegpmlmaaGreat
