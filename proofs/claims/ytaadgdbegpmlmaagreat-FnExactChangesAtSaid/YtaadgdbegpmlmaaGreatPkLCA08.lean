/- Printed by a program of this claim's author: each Go function as a Lean function over abstract combinators, and the equation that says that T makes it of the loaded code. -/
import Derived.Test.YtaadgdbegpmlmaaGreatProg
import Derived.Test.YtaadgdbegpmlmaaGreatPkLCA02
namespace Go.Proofs.YtaadgdbegpmlmaaGreat
open Go.Sx
theorem mixed : Tryz.prog.follows .mixedOrders = true := by kernel_rfl

abbrev n_laws_FnExactChangesAt : Nat := 4
abbrev n_laws_szBook : Nat := 30
abbrev n_spec_ChangesAt : Nat := 31
abbrev n_laws_toBook : Nat := 32
abbrev n_laws_toKey : Nat := 33
abbrev n_impl_ChangesAt : Nat := 34
abbrev n_laws_eqChangeS : Nat := 35
abbrev n_laws_eqBook : Nat := 36
abbrev n_laws_markBook : Nat := 37
abbrev n_laws_markChangeS : Nat := 38
abbrev n_laws_heldChangeS : Nat := 39
abbrev n_impl_ValidCommit : Nat := 62
abbrev n_laws_eqKeyS : Nat := 69
abbrev n_laws_markKeyS : Nat := 70
abbrev n_laws_szKeyS : Nat := 74
abbrev n_laws_szEntryS : Nat := 75
abbrev n_laws_toKeyS : Nat := 76
abbrev n_laws_toEntryS : Nat := 77
abbrev n_laws_eqKey : Nat := 78
abbrev n_laws_eqEntryS : Nat := 79
abbrev n_laws_markEntryS : Nat := 80
abbrev n_impl_open : Nat := 96
abbrev n_spec_l07Ok : Nat := 104
abbrev n_spec_l07Key : Nat := 105
abbrev n_impl_compareKeys : Nat := 110
abbrev n_spec_l07At : Nat := 112
abbrev n_spec_l01Compare : Nat := 114
abbrev n_spec_l01Has : Nat := 116
abbrev n_laws_szCommitS : Nat := 117
abbrev n_laws_szEntrySS : Nat := 118
abbrev n_spec_l07Changes : Nat := 119
abbrev n_laws_toCommitS : Nat := 120
abbrev n_laws_toEntrySS : Nat := 121
abbrev n_ptr_impl_ledger_changesAt : Nat := 122
abbrev n_laws_eqChange : Nat := 123
abbrev n_laws_eqCommitS : Nat := 124
abbrev n_laws_eqEntrySS : Nat := 125
abbrev n_laws_markCommitS : Nat := 126
abbrev n_laws_markEntrySS : Nat := 127
abbrev n_laws_markText : Nat := 128
abbrev n_impl_newLedger : Nat := 148
abbrev n_impl_Commit_data : Nat := 153
abbrev n_impl_Commit_key : Nat := 155
abbrev n_spec_l01Hash : Nat := 156
abbrev n_ptr_impl_ledger_at : Nat := 157
abbrev n_impl_within : Nat := 159
abbrev n_impl_ValidEntries : Nat := 161
abbrev n_spec_l07Book : Nat := 163
abbrev n_spec_l07Keys : Nat := 167
abbrev n_spec_l07Find : Nat := 169
abbrev n_laws_szEntry : Nat := 172
abbrev n_laws_toEntry : Nat := 173
abbrev n_laws_eqEntry : Nat := 174
abbrev n_ptr_impl_ledger_mapOf : Nat := 192
abbrev n_ptr_impl_ledger_find : Nat := 198
abbrev n_slices_Index_sl_impl_Key_impl_Key : Nat := 203
abbrev n_spec_l00In : Nat := 204
abbrev n_spec_l07Data : Nat := 205
abbrev n_slices_Compare_sl_byte_byte : Nat := 210
abbrev n_laws_szCommit : Nat := 211
abbrev n_spec_ChangesOf : Nat := 212
abbrev n_laws_toCommit : Nat := 213
abbrev n_impl_changes : Nat := 214
abbrev n_laws_eqCommit : Nat := 215
abbrev n_impl_treeOf : Nat := 240
abbrev n_ptr_impl_tree_key : Nat := 241
abbrev n_ptr_impl_ledger_number : Nat := 242
abbrev n_impl_hash : Nat := 245
abbrev n_spec_l01End : Nat := 246
abbrev n_spec_l01Start : Nat := 247
abbrev n_impl_ValidEntry : Nat := 248
abbrev n_spec_MapKey : Nat := 250
abbrev n_spec_l07Number : Nat := 251
abbrev n_spec_l04Ok : Nat := 252
abbrev n_impl_EmptyMapKey : Nat := 258
abbrev n_spec_l04Empty : Nat := 262
abbrev n_spec_l07Add : Nat := 271
abbrev n_cmp_Compare_byte : Nat := 272
abbrev n_spec_l04Changes : Nat := 273
abbrev n_spec_l04Nodes : Nat := 274
abbrev n_spec_l04Bytes : Nat := 276
abbrev n_impl_grow : Nat := 289
abbrev n_impl_MapNode_key : Nat := 290
abbrev n_impl_blocks : Nat := 291
abbrev n_slices_Concat_sl_byte_byte : Nat := 292
abbrev n_impl_padding : Nat := 293
abbrev n_impl_size_byte : Nat := 294
abbrev n_impl_keyOf : Nat := 295
abbrev n_impl_mixed : Nat := 296
abbrev n_impl_StartState : Nat := 297
abbrev n_spec_l01Padded : Nat := 298
abbrev n_spec_l01Mix : Nat := 299
abbrev n_spec_l01Block : Nat := 300
abbrev n_impl_isName : Nat := 301
abbrev n_spec_l00Max : Nat := 302
abbrev n_spec_l04Entry : Nat := 303
abbrev n_cmp_isNaN_byte : Nat := 317
abbrev n_spec_l04Top : Nat := 318
abbrev n_spec_l04NodeKey : Nat := 319
abbrev n_impl_MapNode_bytes : Nat := 324
abbrev n_slices_Grow_sl_byte_byte : Nat := 325
abbrev n_impl_appendLittle : Nat := 326
abbrev n_impl_MixBlock : Nat := 327
abbrev n_spec_l01Turn : Nat := 328
abbrev n_spec_l04Name : Nat := 329
abbrev n_spec_l04Priority : Nat := 336
abbrev n_impl_littleNumber : Nat := 337
abbrev n_math_bits_RotateLeft32 : Nat := 338
abbrev ty_int64 : Nat := 2
abbrev ty_int : Nat := 3
abbrev ty_bool : Nat := 4
abbrev ty_uint8 : Nat := 5
abbrev ty_string : Nat := 9
abbrev ty_sl_uint8 : Nat := 22
abbrev ty_sl_impl_Commit : Nat := 24
abbrev ty_sl_sl_impl_Entry : Nat := 25
abbrev ty_impl_Book : Nat := 27
abbrev ty_sl_impl_Key : Nat := 29
abbrev ty_arr32_uint8 : Nat := 33
abbrev ty_impl_Key : Nat := 34
abbrev ty_impl_Commit : Nat := 38
abbrev ty_sl_laws_Commit : Nat := 48
abbrev ty_sl_sl_laws_Entry : Nat := 49
abbrev ty_laws_Book : Nat := 51
abbrev ty_sl_impl_Change : Nat := 53
abbrev ty_impl_Lease : Nat := 73
abbrev ty_sl_impl_Entry : Nat := 88
abbrev ty_sl_arr32_uint8 : Nat := 94
abbrev ty_sl_laws_Entry : Nat := 95
abbrev ty_impl_Blob : Nat := 110
abbrev ty_impl_ledger : Nat := 125
abbrev ty_impl_Change : Nat := 151
abbrev ty_spec_l05Store : Nat := 165
abbrev ty_map_impl_Key_bool : Nat := 168
abbrev ty_impl_shop : Nat := 178
abbrev ty_laws_Entry : Nat := 213
abbrev ty_impl_Entry : Nat := 214
abbrev ty_uint64 : Nat := 242
abbrev ty_laws_Commit : Nat := 254
abbrev ty_sl_sl_uint8 : Nat := 262
abbrev ty_ptr_impl_tree : Nat := 279
abbrev ty_uint32 : Nat := 284
abbrev ty_arr8_uint32 : Nat := 285
abbrev ty_impl_MapNode : Nat := 294
abbrev ty_sl_impl_MapNode : Nat := 310
abbrev ty_impl_tree : Nat := 328
/-- laws.FnExactChangesAt (4) -/
def laws_FnExactChangesAt (C : Comb) (x0 : Array Value) (x1 : Array Value) : C.St :=
  C.new ty_laws_Book (.agg x0) fun b2 =>
  C.new ty_arr32_uint8 (.agg x1) fun b3 =>
  C.ld .agg 2 (Addr.mk b2 0 none) fun v16 =>
  C.call n_laws_szBook [(.agg v16), (.int .i64 1048576)] [(.int .i64)] fun r18 =>
  cond (decide (r18 < 0)) (
    C.ret (.bool true)
  ) (
    C.join (TL [.slice, (.int .i64)]) (embL [.slice, (.int .i64)]) (fun s10 => C.any fun _ =>
        C.ld .agg 2 (Addr.mk b2 0 none) fun v29 =>
        C.call n_laws_toBook [(.agg v29)] [.agg] fun r30 =>
        C.new ty_impl_Book (.agg (#[(.slice none 0 0), (.slice none 0 0)])) fun b8 =>
        C.st 2 (Addr.mk b8 0 none) (.agg r30) <|
        C.join (TL [.slice, (.int .i64)]) (embL [.slice, (.int .i64)]) (fun s18 => C.any fun _ =>
            C.join (TL []) (embL []) (fun s20 => C.any fun _ =>
                C.join (TL []) (embL []) (fun s25 => C.any fun _ =>
                    C.ld .agg 2 (Addr.mk b8 0 none) fun v52 =>
                    C.call n_laws_markBook [(.agg v52), (.int .i64 1)] [(.int .i64)] fun r54 =>
                    C.join (TL []) (embL []) (fun s29 => C.any fun _ =>
                        C.call n_laws_markChangeS [(.slice s18.1.a s18.1.n s18.1.c), (.int .i64 1)] [(.int .i64)] fun r70 =>
                        C.call n_laws_heldChangeS [(.slice s18.1.a s18.1.n s18.1.c), (.int .i64 1)] [(.int .i64)] fun r73 =>
                        cond (decide (r73 < 0)) (
                          C.ret (.bool false)
                        ) (
                          cond (r73 != r70) (
                            C.ret (.bool false)
                          ) (
                            C.join (TL [.slice, (.int .i64)]) (embL [.slice, (.int .i64)]) (fun s37 => C.any fun _ =>
                                C.join (TL []) (embL []) (fun s39 => C.any fun _ =>
                                    C.call n_laws_heldChangeS [(.slice s18.1.a s18.1.n s18.1.c), (.int .i64 1)] [(.int .i64)] fun r98 =>
                                    cond (decide (r98 < 0)) (
                                      C.ret (.bool false)
                                    ) (
                                      cond (r98 != r70) (
                                        C.ret (.bool false)
                                      ) (
                                        C.ret (.bool true)
                                      )
                                    )
                                  ) fun jt =>
                                C.call n_laws_eqChangeS [(.slice s37.1.a s37.1.n s37.1.c), (.slice s10.1.a s10.1.n s10.1.c)] [.bool] fun r89 =>
                                cond (!r89) (
                                  C.ret (.bool false)
                                ) (
                                  cond (s37.2 != s10.2) (
                                    C.ret (.bool false)
                                  ) (
                                    jt []
                                  )
                                )
                              ) fun jt =>
                            C.draw <|
                            C.ld .agg 2 (Addr.mk b2 0 none) fun v80 =>
                            C.ld .agg 32 (Addr.mk b3 0 none) fun v82 =>
                            C.call n_laws_toBook [(.agg v80)] [.agg] fun r81 =>
                            C.chk [⟨2, 32, (Addr.mk b3 0 none), .agg, v82⟩] <|
                            C.call n_laws_toKey [(.agg v82)] [.agg] fun r83 =>
                            C.call n_impl_ChangesAt [(.agg r81), (.agg r83)] [.slice, (.int .i64)] fun r84 =>
                            jt [(.slice r84.1.a r84.1.n r84.1.c), (.int .i64 r84.2)]
                          )
                        )
                      ) fun jt =>
                    cond (decide (r54 < 0)) (
                      C.ret (.bool false)
                    ) (
                      C.call n_laws_eqChangeS [(.slice s18.1.a s18.1.n s18.1.c), (.slice s10.1.a s10.1.n s10.1.c)] [.bool] fun r60 =>
                      cond (!r60) (
                        C.ret (.bool false)
                      ) (
                        cond (s18.2 != s10.2) (
                          C.ret (.bool false)
                        ) (
                          jt []
                        )
                      )
                    )
                  ) fun jt =>
                C.draw <|
                C.ld .agg 2 (Addr.mk b8 0 none) fun v47 =>
                C.ld .agg 2 (Addr.mk b2 0 none) fun v48 =>
                C.call n_laws_toBook [(.agg v48)] [.agg] fun r49 =>
                C.chk [⟨0, 2, (Addr.mk b8 0 none), .agg, v47⟩] <|
                C.call n_laws_eqBook [(.agg v47), (.agg r49)] [.bool] fun r50 =>
                cond (!r50) (
                  C.ret (.bool false)
                ) (
                  jt []
                )
              ) fun jt =>
            C.call n_laws_eqChangeS [(.slice s18.1.a s18.1.n s18.1.c), (.slice s10.1.a s10.1.n s10.1.c)] [.bool] fun r40 =>
            cond (!r40) (
              C.ret (.bool false)
            ) (
              cond (s18.2 != s10.2) (
                C.ret (.bool false)
              ) (
                jt []
              )
            )
          ) fun jt =>
        C.draw <|
        C.ld .agg 2 (Addr.mk b8 0 none) fun v32 =>
        C.ld .agg 32 (Addr.mk b3 0 none) fun v33 =>
        C.call n_laws_toKey [(.agg v33)] [.agg] fun r34 =>
        C.chk [⟨0, 2, (Addr.mk b8 0 none), .agg, v32⟩] <|
        C.call n_impl_ChangesAt [(.agg v32), (.agg r34)] [.slice, (.int .i64)] fun r35 =>
        jt [(.slice r35.1.a r35.1.n r35.1.c), (.int .i64 r35.2)]
      ) fun jt =>
    C.draw <|
    C.ld .agg 2 (Addr.mk b2 0 none) fun v22 =>
    C.ld .agg 32 (Addr.mk b3 0 none) fun v24 =>
    C.call n_laws_toBook [(.agg v22)] [.agg] fun r23 =>
    C.chk [⟨2, 32, (Addr.mk b3 0 none), .agg, v24⟩] <|
    C.call n_laws_toKey [(.agg v24)] [.agg] fun r25 =>
    C.call n_spec_ChangesAt [(.agg r23), (.agg r25)] [.slice, (.int .i64)] fun r26 =>
    jt [(.slice r26.1.a r26.1.n r26.1.c), (.int .i64 r26.2)]
  )
theorem laws_FnExactChangesAt_eq (C : Comb) (x0 : Array Value) (x1 : Array Value) : fT C Tryz.prog { loop := [], join := [(16, [(6, .slice), (7, (.int .i64))]), (22, [(9, .slice), (10, (.int .i64))]), (138, []), (153, []), (201, []), (73, [(14, .slice), (15, (.int .i64))]), (285, [])], anyOrder := [5, 7, 10, 24], pure := [] } n_laws_FnExactChangesAt [(.agg x0), (.agg x1)] = laws_FnExactChangesAt C x0 x1 := by kernel_rfl
theorem laws_FnExactChangesAt_calls {R : Value → World → Prop} {w : World} (x0 : Array Value) (x1 : Array Value) (h : (laws_FnExactChangesAt (real Tryz.prog R) x0 x1 : World → Prop) w) :
    Calls Tryz.prog n_laws_FnExactChangesAt [(.agg x0), (.agg x1)].toArray w fun e w' => ∃ v, e = .returned v ∧ R v w' := fT_sound mixed { loop := [], join := [(16, [(6, .slice), (7, (.int .i64))]), (22, [(9, .slice), (10, (.int .i64))]), (138, []), (153, []), (201, []), (73, [(14, .slice), (15, (.int .i64))]), (285, [])], anyOrder := [5, 7, 10, 24], pure := [] } (by rw [laws_FnExactChangesAt_eq]; exact h)

/-- laws.szBook (30) -/
def laws_szBook (C : Comb) (x0 : Array Value) (x1 : Int) : C.St :=
  C.new ty_laws_Book (.agg x0) fun b2 =>
  C.ld .slice 1 ((Addr.mk b2 0 none).add 0) fun v6 =>
  C.call n_laws_szCommitS [(.slice v6.a v6.n v6.c), (.int .i64 x1)] [(.int .i64)] fun r8 =>
  cond (decide (r8 < 0)) (
    C.ret (.int .i64 (-1))
  ) (
    C.ld .slice 1 ((Addr.mk b2 0 none).add 1) fun v12 =>
    C.call n_laws_szEntrySS [(.slice v12.a v12.n v12.c), (.int .i64 r8)] [(.int .i64)] fun r14 =>
    cond (decide (r14 < 0)) (
      C.ret (.int .i64 (-1))
    ) (
      C.ret (.int .i64 r14)
    )
  )
theorem laws_szBook_eq (C : Comb) (x0 : Array Value) (x1 : Int) : fT C Tryz.prog { loop := [], join := [], anyOrder := [], pure := [] } n_laws_szBook [(.agg x0), (.int .i64 x1)] = laws_szBook C x0 x1 := by kernel_rfl
theorem laws_szBook_calls {R : Value → World → Prop} {w : World} (x0 : Array Value) (x1 : Int) (h : (laws_szBook (real Tryz.prog R) x0 x1 : World → Prop) w) :
    Calls Tryz.prog n_laws_szBook [(.agg x0), (.int .i64 x1)].toArray w fun e w' => ∃ v, e = .returned v ∧ R v w' := fT_sound mixed { loop := [], join := [], anyOrder := [], pure := [] } (by rw [laws_szBook_eq]; exact h)

/-- spec.ChangesAt (31) -/
def spec_ChangesAt (C : Comb) (x0 : Array Value) (x1 : Array Value) : C.St :=
  C.new ty_impl_Book (.agg x0) fun b2 =>
  C.new ty_impl_Key (.agg x1) fun b3 =>
  C.ld .agg 32 (Addr.mk b3 0 none) fun v9 =>
  C.call n_spec_l07At [(.pointer (some (Addr.mk b2 0 none))), (.agg v9)] [(.int .i64), (.int .i64)] fun r10 =>
  cond (r10.2 != 0) (
    C.sem (Instr.buildSlice ty_sl_impl_Change 0 #[]) .slice fun y15 =>
    C.ret (.tuple #[(.slice y15.a y15.n y15.c), (.int .i64 r10.2)])
  ) (
    C.call n_spec_l07Changes [(.pointer (some (Addr.mk b2 0 none))), (.int .i64 r10.1)] [.slice, (.int .i64)] fun r18 =>
    C.ret (.tuple #[(.slice r18.1.a r18.1.n r18.1.c), (.int .i64 r18.2)])
  )
theorem spec_ChangesAt_eq (C : Comb) (x0 : Array Value) (x1 : Array Value) : fT C Tryz.prog { loop := [], join := [], anyOrder := [], pure := [] } n_spec_ChangesAt [(.agg x0), (.agg x1)] = spec_ChangesAt C x0 x1 := by kernel_rfl
theorem spec_ChangesAt_calls {R : Value → World → Prop} {w : World} (x0 : Array Value) (x1 : Array Value) (h : (spec_ChangesAt (real Tryz.prog R) x0 x1 : World → Prop) w) :
    Calls Tryz.prog n_spec_ChangesAt [(.agg x0), (.agg x1)].toArray w fun e w' => ∃ v, e = .returned v ∧ R v w' := fT_sound mixed { loop := [], join := [], anyOrder := [], pure := [] } (by rw [spec_ChangesAt_eq]; exact h)

/-- laws.toBook (32) -/
def laws_toBook (C : Comb) (x0 : Array Value) : C.St :=
  C.new ty_laws_Book (.agg x0) fun b1 =>
  C.new ty_impl_Book (.agg (#[(.slice none 0 0), (.slice none 0 0)])) fun b2 =>
  C.new ty_impl_Book (.agg (#[(.slice none 0 0), (.slice none 0 0)])) fun b3 =>
  C.ld .slice 1 ((Addr.mk b1 0 none).add 0) fun v5 =>
  C.call n_laws_toCommitS [(.slice v5.a v5.n v5.c)] [.slice] fun r6 =>
  C.st 1 ((Addr.mk b3 0 none).add 0) (.slice r6.a r6.n r6.c) <|
  C.ld .slice 1 ((Addr.mk b1 0 none).add 1) fun v9 =>
  C.call n_laws_toEntrySS [(.slice v9.a v9.n v9.c)] [.slice] fun r10 =>
  C.st 1 ((Addr.mk b3 0 none).add 1) (.slice r10.a r10.n r10.c) <|
  C.ld .agg 2 (Addr.mk b3 0 none) fun v12 =>
  C.st 2 (Addr.mk b2 0 none) (.agg v12) <|
  C.ld .agg 2 (Addr.mk b2 0 none) fun z9 =>
  C.ret (.agg z9)
theorem laws_toBook_eq (C : Comb) (x0 : Array Value) : fT C Tryz.prog { loop := [], join := [], anyOrder := [], pure := [] } n_laws_toBook [(.agg x0)] = laws_toBook C x0 := by kernel_rfl
theorem laws_toBook_calls {R : Value → World → Prop} {w : World} (x0 : Array Value) (h : (laws_toBook (real Tryz.prog R) x0 : World → Prop) w) :
    Calls Tryz.prog n_laws_toBook [(.agg x0)].toArray w fun e w' => ∃ v, e = .returned v ∧ R v w' := fT_sound mixed { loop := [], join := [], anyOrder := [], pure := [] } (by rw [laws_toBook_eq]; exact h)

/-- laws.toKey (33) -/
def laws_toKey (C : Comb) (x0 : Array Value) : C.St :=
  C.new ty_arr32_uint8 (.agg x0) fun b1 =>
  C.new ty_impl_Key (.agg (Array.replicate 32 (.int .u8 0))) fun b2 =>
  C.new ty_impl_Key (.agg (Array.replicate 32 (.int .u8 0))) fun b3 =>
  C.loop (TL [(.int .i64)]) (embL [(.int .i64)]) [(.int .i64 0)] fun s4 ct4 => C.any fun _ =>
  cond (decide (s4 < 32)) (
    C.ix (some (Addr.mk b1 0 none)) 32 1 s4 fun p11 =>
    C.ld (.int .u8) 1 p11 fun v12 =>
    C.ix (some (Addr.mk b3 0 none)) 32 1 s4 fun p13 =>
    C.st 1 p13 (.int .u8 v12) <|
    ct4 [(.int .i64 (IntKind.wrap .i64 (s4 + 1)))]
  ) (
    C.ld .agg 32 (Addr.mk b3 0 none) fun v14 =>
    C.st 32 (Addr.mk b2 0 none) (.agg v14) <|
    C.ld .agg 32 (Addr.mk b2 0 none) fun z9 =>
    C.ret (.agg z9)
  )
theorem laws_toKey_eq (C : Comb) (x0 : Array Value) : fT C Tryz.prog { loop := [(3, [(4, (.int .i64))])], join := [], anyOrder := [], pure := [] } n_laws_toKey [(.agg x0)] = laws_toKey C x0 := by kernel_rfl
theorem laws_toKey_calls {R : Value → World → Prop} {w : World} (x0 : Array Value) (h : (laws_toKey (real Tryz.prog R) x0 : World → Prop) w) :
    Calls Tryz.prog n_laws_toKey [(.agg x0)].toArray w fun e w' => ∃ v, e = .returned v ∧ R v w' := fT_sound mixed { loop := [(3, [(4, (.int .i64))])], join := [], anyOrder := [], pure := [] } (by rw [laws_toKey_eq]; exact h)

/-- impl.ChangesAt (34) -/
def impl_ChangesAt (C : Comb) (x0 : Array Value) (x1 : Array Value) : C.St :=
  C.new ty_impl_Book (.agg x0) fun b2 =>
  C.new ty_impl_Key (.agg x1) fun b3 =>
  C.ld .agg 2 (Addr.mk b2 0 none) fun v9 =>
  C.ld .agg 32 (Addr.mk b3 0 none) fun v10 =>
  C.sem (Instr.buildSlice ty_sl_impl_Key 1 #[(0, (.agg v10))]) .slice fun y11 =>
  C.call n_impl_open [(.agg v9), (.slice y11.a y11.n y11.c)] [.optr, (.int .i64)] fun r12 =>
  cond (r12.2 != 0) (
    C.ret (.tuple #[(.slice none 0 0), (.int .i64 r12.2)])
  ) (
    C.ld .agg 32 (Addr.mk b3 0 none) fun v19 =>
    C.call n_ptr_impl_ledger_changesAt [(.pointer r12.1), (.agg v19)] [.slice] fun r20 =>
    C.ret (.tuple #[(.slice r20.a r20.n r20.c), (.int .i64 0)])
  )
theorem impl_ChangesAt_eq (C : Comb) (x0 : Array Value) (x1 : Array Value) : fT C Tryz.prog { loop := [], join := [], anyOrder := [], pure := [] } n_impl_ChangesAt [(.agg x0), (.agg x1)] = impl_ChangesAt C x0 x1 := by kernel_rfl
theorem impl_ChangesAt_calls {R : Value → World → Prop} {w : World} (x0 : Array Value) (x1 : Array Value) (h : (impl_ChangesAt (real Tryz.prog R) x0 x1 : World → Prop) w) :
    Calls Tryz.prog n_impl_ChangesAt [(.agg x0), (.agg x1)].toArray w fun e w' => ∃ v, e = .returned v ∧ R v w' := fT_sound mixed { loop := [], join := [], anyOrder := [], pure := [] } (by rw [impl_ChangesAt_eq]; exact h)

/-- laws.eqChangeS (35) -/
def laws_eqChangeS (C : Comb) (x0 : Sl) (x1 : Sl) : C.St :=
  cond ((x0.n : Int) != (x1.n : Int)) (
    C.ret (.bool false)
  ) (
    C.loop (TL [(.int .i64)]) (embL [(.int .i64)]) [(.int .i64 0)] fun s1 ct1 => C.any fun _ =>
    cond (decide (s1 < (x0.n : Int))) (
      C.draw <|
      C.ix x0.a x0.n 5 s1 fun p19 =>
      C.ld .agg 5 p19 fun v20 =>
      C.ix x1.a x1.n 5 s1 fun p23 =>
      C.ld .agg 5 p23 fun v24 =>
      C.call n_laws_eqChange [(.agg v20), (.agg v24)] [.bool] fun r25 =>
      cond (!r25) (
        C.ret (.bool false)
      ) (
        ct1 [(.int .i64 (IntKind.wrap .i64 (s1 + 1)))]
      )
    ) (
      C.ret (.bool true)
    )
  )
theorem laws_eqChangeS_eq (C : Comb) (x0 : Sl) (x1 : Sl) : fT C Tryz.prog { loop := [(4, [(5, (.int .i64))])], join := [], anyOrder := [6], pure := [] } n_laws_eqChangeS [(.slice x0.a x0.n x0.c), (.slice x1.a x1.n x1.c)] = laws_eqChangeS C x0 x1 := by kernel_rfl
theorem laws_eqChangeS_calls {R : Value → World → Prop} {w : World} (x0 : Sl) (x1 : Sl) (h : (laws_eqChangeS (real Tryz.prog R) x0 x1 : World → Prop) w) :
    Calls Tryz.prog n_laws_eqChangeS [(.slice x0.a x0.n x0.c), (.slice x1.a x1.n x1.c)].toArray w fun e w' => ∃ v, e = .returned v ∧ R v w' := fT_sound mixed { loop := [(4, [(5, (.int .i64))])], join := [], anyOrder := [6], pure := [] } (by rw [laws_eqChangeS_eq]; exact h)

/-- laws.eqBook (36) -/
def laws_eqBook (C : Comb) (x0 : Array Value) (x1 : Array Value) : C.St :=
  C.new ty_impl_Book (.agg x0) fun b2 =>
  C.new ty_impl_Book (.agg x1) fun b3 =>
  C.ld .slice 1 ((Addr.mk b2 0 none).add 0) fun v6 =>
  C.ld .slice 1 ((Addr.mk b3 0 none).add 0) fun v8 =>
  C.call n_laws_eqCommitS [(.slice v6.a v6.n v6.c), (.slice v8.a v8.n v8.c)] [.bool] fun r9 =>
  cond (!r9) (
    C.ret (.bool false)
  ) (
    C.ld .slice 1 ((Addr.mk b2 0 none).add 1) fun v12 =>
    C.ld .slice 1 ((Addr.mk b3 0 none).add 1) fun v14 =>
    C.call n_laws_eqEntrySS [(.slice v12.a v12.n v12.c), (.slice v14.a v14.n v14.c)] [.bool] fun r15 =>
    cond (!r15) (
      C.ret (.bool false)
    ) (
      C.ret (.bool true)
    )
  )
theorem laws_eqBook_eq (C : Comb) (x0 : Array Value) (x1 : Array Value) : fT C Tryz.prog { loop := [], join := [], anyOrder := [], pure := [] } n_laws_eqBook [(.agg x0), (.agg x1)] = laws_eqBook C x0 x1 := by kernel_rfl
theorem laws_eqBook_calls {R : Value → World → Prop} {w : World} (x0 : Array Value) (x1 : Array Value) (h : (laws_eqBook (real Tryz.prog R) x0 x1 : World → Prop) w) :
    Calls Tryz.prog n_laws_eqBook [(.agg x0), (.agg x1)].toArray w fun e w' => ∃ v, e = .returned v ∧ R v w' := fT_sound mixed { loop := [], join := [], anyOrder := [], pure := [] } (by rw [laws_eqBook_eq]; exact h)

/-- laws.markBook (37) -/
def laws_markBook (C : Comb) (x0 : Array Value) (x1 : Int) : C.St :=
  C.new ty_impl_Book (.agg x0) fun b2 =>
  C.ld .slice 1 ((Addr.mk b2 0 none).add 0) fun v6 =>
  C.call n_laws_markCommitS [(.slice v6.a v6.n v6.c), (.int .i64 x1)] [(.int .i64)] fun r8 =>
  C.ld .slice 1 ((Addr.mk b2 0 none).add 1) fun v10 =>
  C.call n_laws_markEntrySS [(.slice v10.a v10.n v10.c), (.int .i64 r8)] [(.int .i64)] fun r12 =>
  C.ret (.int .i64 r12)
theorem laws_markBook_eq (C : Comb) (x0 : Array Value) (x1 : Int) : fT C Tryz.prog { loop := [], join := [], anyOrder := [], pure := [] } n_laws_markBook [(.agg x0), (.int .i64 x1)] = laws_markBook C x0 x1 := by kernel_rfl
theorem laws_markBook_calls {R : Value → World → Prop} {w : World} (x0 : Array Value) (x1 : Int) (h : (laws_markBook (real Tryz.prog R) x0 x1 : World → Prop) w) :
    Calls Tryz.prog n_laws_markBook [(.agg x0), (.int .i64 x1)].toArray w fun e w' => ∃ v, e = .returned v ∧ R v w' := fT_sound mixed { loop := [], join := [], anyOrder := [], pure := [] } (by rw [laws_markBook_eq]; exact h)

/-- laws.markChangeS (38) -/
def laws_markChangeS (C : Comb) (x0 : Sl) (x1 : Int) : C.St :=
  C.loop (TL [(.int .i64), (.int .i64)]) (embL [(.int .i64), (.int .i64)]) [(.int .i64 x1), (.int .i64 0)] fun s1 ct1 => C.any fun _ =>
  cond (decide (s1.2 < (x0.n : Int))) (
    C.call n_laws_markText [(.int .i64 s1.1)] [.str] fun r15 =>
    C.ix x0.a x0.n 5 s1.2 fun p16 =>
    C.st 1 (p16.add 0) (.string r15) <|
    C.ix x0.a x0.n 5 s1.2 fun p25 =>
    C.st 1 (p25.add 1) (.bool ((Int.tmod (IntKind.wrap .i64 (s1.1 + 1)) 3) == 0)) <|
    C.call n_laws_markText [(.int .i64 (IntKind.wrap .i64 ((IntKind.wrap .i64 (s1.1 + 1)) + 1)))] [.str] fun r32 =>
    C.ix x0.a x0.n 5 s1.2 fun p33 =>
    C.st 1 (p33.add 2) (.string r32) <|
    C.ix x0.a x0.n 5 s1.2 fun p42 =>
    C.st 1 (p42.add 3) (.bool ((Int.tmod (IntKind.wrap .i64 ((IntKind.wrap .i64 ((IntKind.wrap .i64 (s1.1 + 1)) + 1)) + 1)) 3) == 0)) <|
    C.call n_laws_markText [(.int .i64 (IntKind.wrap .i64 ((IntKind.wrap .i64 ((IntKind.wrap .i64 ((IntKind.wrap .i64 (s1.1 + 1)) + 1)) + 1)) + 1)))] [.str] fun r49 =>
    C.ix x0.a x0.n 5 s1.2 fun p50 =>
    C.st 1 (p50.add 4) (.string r49) <|
    ct1 [(.int .i64 (IntKind.wrap .i64 ((IntKind.wrap .i64 ((IntKind.wrap .i64 ((IntKind.wrap .i64 ((IntKind.wrap .i64 (s1.1 + 1)) + 1)) + 1)) + 1)) + 1))), (.int .i64 (IntKind.wrap .i64 (s1.2 + 1)))]
  ) (
    C.ret (.int .i64 s1.1)
  )
theorem laws_markChangeS_eq (C : Comb) (x0 : Sl) (x1 : Int) : fT C Tryz.prog { loop := [(2, [(1, (.int .i64)), (5, (.int .i64))])], join := [], anyOrder := [], pure := [] } n_laws_markChangeS [(.slice x0.a x0.n x0.c), (.int .i64 x1)] = laws_markChangeS C x0 x1 := by kernel_rfl
theorem laws_markChangeS_calls {R : Value → World → Prop} {w : World} (x0 : Sl) (x1 : Int) (h : (laws_markChangeS (real Tryz.prog R) x0 x1 : World → Prop) w) :
    Calls Tryz.prog n_laws_markChangeS [(.slice x0.a x0.n x0.c), (.int .i64 x1)].toArray w fun e w' => ∃ v, e = .returned v ∧ R v w' := fT_sound mixed { loop := [(2, [(1, (.int .i64)), (5, (.int .i64))])], join := [], anyOrder := [], pure := [] } (by rw [laws_markChangeS_eq]; exact h)

/-- laws.heldChangeS (39) -/
def laws_heldChangeS (C : Comb) (x0 : Sl) (x1 : Int) : C.St :=
  C.loop (TL [(.int .i64), (.int .i64)]) (embL [(.int .i64), (.int .i64)]) [(.int .i64 x1), (.int .i64 0)] fun s1 ct1 => C.any fun _ =>
  cond (decide (s1.2 < (x0.n : Int))) (
    C.join (TL []) (embL []) (fun s6 => C.any fun _ =>
        C.ix x0.a x0.n 5 s1.2 fun p24 =>
        C.ld .bool 1 (p24.add 1) fun v26 =>
        C.pur (eqB .neq ty_bool (.tmp 26) (.tmp 29) (.bool v26) (.bool ((Int.tmod (IntKind.wrap .i64 (s1.1 + 1)) 3) == 0))) .bool fun y30 =>
        cond y30 (
          C.ret (.int .i64 (-1))
        ) (
          C.join (TL []) (embL []) (fun s14 => C.any fun _ =>
              C.ix x0.a x0.n 5 s1.2 fun p45 =>
              C.ld .bool 1 (p45.add 3) fun v47 =>
              C.pur (eqB .neq ty_bool (.tmp 47) (.tmp 50) (.bool v47) (.bool ((Int.tmod (IntKind.wrap .i64 ((IntKind.wrap .i64 ((IntKind.wrap .i64 (s1.1 + 1)) + 1)) + 1)) 3) == 0))) .bool fun y51 =>
              cond y51 (
                C.ret (.int .i64 (-1))
              ) (
                C.draw <|
                C.ix x0.a x0.n 5 s1.2 fun p56 =>
                C.ld .str 1 (p56.add 4) fun v58 =>
                C.call n_laws_markText [(.int .i64 (IntKind.wrap .i64 ((IntKind.wrap .i64 ((IntKind.wrap .i64 ((IntKind.wrap .i64 (s1.1 + 1)) + 1)) + 1)) + 1)))] [.str] fun r60 =>
                C.chk [⟨4, 1, (p56.add 4), .str, v58⟩] <|
                C.pur (eqB .neq ty_string (.tmp 58) (.tmp 60) (.string v58) (.string r60)) .bool fun y61 =>
                cond y61 (
                  C.ret (.int .i64 (-1))
                ) (
                  ct1 [(.int .i64 (IntKind.wrap .i64 ((IntKind.wrap .i64 ((IntKind.wrap .i64 ((IntKind.wrap .i64 ((IntKind.wrap .i64 (s1.1 + 1)) + 1)) + 1)) + 1)) + 1))), (.int .i64 (IntKind.wrap .i64 (s1.2 + 1)))]
                )
              )
            ) fun jt =>
          C.draw <|
          C.ix x0.a x0.n 5 s1.2 fun p35 =>
          C.ld .str 1 (p35.add 2) fun v37 =>
          C.call n_laws_markText [(.int .i64 (IntKind.wrap .i64 ((IntKind.wrap .i64 (s1.1 + 1)) + 1)))] [.str] fun r39 =>
          C.chk [⟨4, 1, (p35.add 2), .str, v37⟩] <|
          C.pur (eqB .neq ty_string (.tmp 37) (.tmp 39) (.string v37) (.string r39)) .bool fun y40 =>
          cond y40 (
            C.ret (.int .i64 (-1))
          ) (
            jt []
          )
        )
      ) fun jt =>
    C.draw <|
    C.ix x0.a x0.n 5 s1.2 fun p14 =>
    C.ld .str 1 (p14.add 0) fun v16 =>
    C.call n_laws_markText [(.int .i64 s1.1)] [.str] fun r18 =>
    C.chk [⟨4, 1, (p14.add 0), .str, v16⟩] <|
    C.pur (eqB .neq ty_string (.tmp 16) (.tmp 18) (.string v16) (.string r18)) .bool fun y19 =>
    cond y19 (
      C.ret (.int .i64 (-1))
    ) (
      jt []
    )
  ) (
    C.ret (.int .i64 s1.1)
  )
theorem laws_heldChangeS_eq (C : Comb) (x0 : Sl) (x1 : Int) : fT C Tryz.prog { loop := [(2, [(1, (.int .i64)), (5, (.int .i64))])], join := [(57, []), (120, [])], anyOrder := [4, 10, 16], pure := [] } n_laws_heldChangeS [(.slice x0.a x0.n x0.c), (.int .i64 x1)] = laws_heldChangeS C x0 x1 := by kernel_rfl
theorem laws_heldChangeS_calls {R : Value → World → Prop} {w : World} (x0 : Sl) (x1 : Int) (h : (laws_heldChangeS (real Tryz.prog R) x0 x1 : World → Prop) w) :
    Calls Tryz.prog n_laws_heldChangeS [(.slice x0.a x0.n x0.c), (.int .i64 x1)].toArray w fun e w' => ∃ v, e = .returned v ∧ R v w' := fT_sound mixed { loop := [(2, [(1, (.int .i64)), (5, (.int .i64))])], join := [(57, []), (120, [])], anyOrder := [4, 10, 16], pure := [] } (by rw [laws_heldChangeS_eq]; exact h)

end Go.Proofs.YtaadgdbegpmlmaaGreat
