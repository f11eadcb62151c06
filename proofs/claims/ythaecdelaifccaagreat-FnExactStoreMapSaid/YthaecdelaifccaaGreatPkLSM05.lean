/- Printed by a program of this claim's author: each Go function as a Lean function over abstract combinators, and the equation that says that T makes it of the loaded code. -/
import Derived.Test.YthaecdelaifccaaGreatProg
import Derived.Test.YthaecdelaifccaaGreatPkLSM02
namespace Go.Proofs.YthaecdelaifccaaGreat
open Go.Sx
theorem mixed : Tryz.prog.follows .mixedOrders = true := by kernel_rfl

abbrev n_laws_FnExactStoreMap : Nat := 3
abbrev n_laws_szStore : Nat := 4
abbrev n_laws_szEntryS : Nat := 5
abbrev n_spec_StoreMap : Nat := 6
abbrev n_laws_toStore : Nat := 7
abbrev n_laws_toEntryS : Nat := 8
abbrev n_impl_StoreMap : Nat := 9
abbrev n_laws_eqStore : Nat := 10
abbrev n_laws_eqKey : Nat := 11
abbrev n_laws_eqEntryS : Nat := 12
abbrev n_laws_markStore : Nat := 13
abbrev n_laws_markEntryS : Nat := 14
abbrev n_laws_heldStore : Nat := 15
abbrev n_laws_szBlobS : Nat := 16
abbrev n_laws_szEntry : Nat := 17
abbrev n_spec_l05Open : Nat := 18
abbrev n_spec_l04Ok : Nat := 19
abbrev n_spec_l04Nodes : Nat := 20
abbrev n_ptr_spec_l05Store_put : Nat := 21
abbrev n_spec_l04Bytes : Nat := 22
abbrev n_spec_l05Made : Nat := 23
abbrev n_laws_toBlobS : Nat := 24
abbrev n_laws_toEntry : Nat := 25
abbrev n_impl_newShop : Nat := 26
abbrev n_impl_ValidEntries : Nat := 27
abbrev n_impl_allNodes : Nat := 28
abbrev n_impl_MapNode_bytes : Nat := 29
abbrev n_ptr_impl_shop_putAll : Nat := 30
abbrev n_impl_treeOf : Nat := 31
abbrev n_ptr_impl_tree_key : Nat := 32
abbrev n_laws_eqBlobS : Nat := 33
abbrev n_laws_eqEntry : Nat := 34
abbrev n_laws_markBlobS : Nat := 35
abbrev n_laws_markText : Nat := 36
abbrev n_laws_heldBlobS : Nat := 37
abbrev n_laws_szBlob : Nat := 38
abbrev n_spec_l05Blob : Nat := 39
abbrev n_spec_l05Key : Nat := 40
abbrev n_spec_l01Compare : Nat := 41
abbrev n_spec_l04Entry : Nat := 42
abbrev n_spec_l04Empty : Nat := 43
abbrev n_spec_l04Top : Nat := 44
abbrev n_spec_l04NodeKey : Nat := 45
abbrev n_spec_l05SameBlob : Nat := 46
abbrev n_ptr_spec_l05Store_store : Nat := 47
abbrev n_laws_toBlob : Nat := 48
abbrev n_impl_ValidStore : Nat := 49
abbrev n_impl_Store_keys : Nat := 50
abbrev n_slices_Clone_sl_impl_Blob_impl_Blob : Nat := 51
abbrev n_impl_ValidEntry : Nat := 52
abbrev n_impl_allNodes_1 : Nat := 53
abbrev n_ptr_impl_tree_nodes : Nat := 54
abbrev n_slices_Concat_sl_byte_byte : Nat := 55
abbrev n_ptr_impl_shop_put : Nat := 56
abbrev n_ptr_impl_shop_store : Nat := 57
abbrev n_impl_hash : Nat := 58
abbrev n_impl_grow : Nat := 59
abbrev n_impl_EmptyMapKey : Nat := 60
abbrev n_impl_MapNode_key : Nat := 61
abbrev n_laws_eqBlob : Nat := 62
abbrev n_laws_markByteS : Nat := 63
abbrev n_laws_heldByteS : Nat := 64
abbrev n_laws_szByteS : Nat := 65
abbrev n_spec_l01Hash : Nat := 66
abbrev n_spec_l04Name : Nat := 67
abbrev n_spec_l04Priority : Nat := 68
abbrev n_spec_l01Bytes : Nat := 69
abbrev n_spec_l05Copy : Nat := 70
abbrev n_laws_toByteS : Nat := 71
abbrev n_slices_ContainsFunc_sl_impl_Blob_impl_Blob : Nat := 72
abbrev n_impl_ValidStore_1 : Nat := 73
abbrev n_impl_ValidBlob : Nat := 74
abbrev n_impl_sorted : Nat := 75
abbrev n_slices_IsSortedFunc_sl_impl_Key_impl_Key : Nat := 76
abbrev n_impl_compareKeys : Nat := 77
abbrev n_impl_Blob_key : Nat := 78
abbrev n_impl_isName : Nat := 79
abbrev n_slices_Grow_sl_byte_byte : Nat := 80
abbrev n_ptr_impl_shop_find : Nat := 81
abbrev n_impl_SameBlob : Nat := 82
abbrev n_slices_Insert_sl_impl_Key_impl_Key : Nat := 83
abbrev n_slices_Insert_sl_impl_Blob_impl_Blob : Nat := 84
abbrev n_impl_Blob_copied : Nat := 85
abbrev n_impl_blocks : Nat := 86
abbrev n_impl_padding : Nat := 87
abbrev n_impl_size_byte : Nat := 88
abbrev n_impl_keyOf : Nat := 89
abbrev n_impl_mixed : Nat := 90
abbrev n_impl_StartState : Nat := 91
abbrev n_laws_eqByteS : Nat := 92
abbrev n_spec_l01End : Nat := 93
abbrev n_spec_l01Start : Nat := 94
abbrev n_spec_l00In : Nat := 95
abbrev n_slices_IndexFunc_sl_impl_Blob_impl_Blob : Nat := 96
abbrev n_slices_Clone_sl_impl_Key_impl_Key : Nat := 97
abbrev n_slices_SortFunc_sl_impl_Key_impl_Key : Nat := 98
abbrev n_slices_Compact_sl_impl_Key_impl_Key : Nat := 99
abbrev n_slices_Compare_sl_byte_byte : Nat := 100
abbrev n_impl_within : Nat := 101
abbrev n_slices_BinarySearchFunc_sl_impl_Key_impl_Key_impl_Key : Nat := 102
abbrev n_bytes_Equal : Nat := 103
abbrev n_slices_overlaps_impl_Key : Nat := 104
abbrev n_slices_rotateRight_impl_Key : Nat := 105
abbrev n_slices_overlaps_impl_Blob : Nat := 106
abbrev n_slices_rotateRight_impl_Blob : Nat := 107
abbrev n_slices_Clone_sl_byte_byte : Nat := 108
abbrev n_impl_appendLittle : Nat := 109
abbrev n_impl_MixBlock : Nat := 110
abbrev n_spec_l01Padded : Nat := 111
abbrev n_spec_l01Mix : Nat := 112
abbrev n_spec_l01Block : Nat := 113
abbrev n_cmp_Compare_byte : Nat := 116
abbrev n_impl_littleNumber : Nat := 119
abbrev n_math_bits_RotateLeft32 : Nat := 120
abbrev n_spec_l01Turn : Nat := 121
abbrev n_cmp_isNaN_byte : Nat := 132
abbrev ty_x : Nat := 0
abbrev ty_int64 : Nat := 2
abbrev ty_int : Nat := 3
abbrev ty_bool : Nat := 4
abbrev ty_uint8 : Nat := 5
abbrev ty_string : Nat := 9
abbrev ty_sl_laws_Blob : Nat := 22
abbrev ty_laws_Store : Nat := 24
abbrev ty_sl_laws_Entry : Nat := 25
abbrev ty_sl_impl_Blob : Nat := 28
abbrev ty_impl_Store : Nat := 30
abbrev ty_arr32_uint8 : Nat := 31
abbrev ty_impl_Key : Nat := 32
abbrev ty_sl_impl_Entry : Nat := 36
abbrev ty_laws_Entry : Nat := 47
abbrev ty_sl_impl_MapNode : Nat := 53
abbrev ty_sl_uint8 : Nat := 58
abbrev ty_impl_Entry : Nat := 61
abbrev ty_impl_MapNode : Nat := 63
abbrev ty_impl_Blob : Nat := 65
abbrev ty_ptr_impl_tree : Nat := 75
abbrev ty_laws_Blob : Nat := 83
abbrev ty_sl_impl_Key : Nat := 84
abbrev ty_spec_l05Store : Nat := 86
abbrev ty_impl_shop : Nat := 102
abbrev ty_impl_tree : Nat := 110
abbrev ty_sl_sl_uint8 : Nat := 122
abbrev ty_sl_arr32_uint8 : Nat := 129
abbrev ty_uint32 : Nat := 135
abbrev ty_arr8_uint32 : Nat := 136
abbrev ty_uint64 : Nat := 149
/-- laws.FnExactStoreMap (3) -/
def laws_FnExactStoreMap (C : Comb) (x0 : Array Value) (x1 : Sl) : C.St :=
  C.new ty_laws_Store (.agg x0) fun b2 =>
  C.ld .agg 1 (Addr.mk b2 0 none) fun v20 =>
  C.call n_laws_szStore [(.agg v20), (.int .i64 1048576)] [(.int .i64)] fun r22 =>
  cond (decide (r22 < 0)) (
    C.ret (.bool true)
  ) (
    C.call n_laws_szEntryS [(.slice x1.a x1.n x1.c), (.int .i64 r22)] [(.int .i64)] fun r27 =>
    cond (decide (r27 < 0)) (
      C.ret (.bool true)
    ) (
      C.ld .agg 1 (Addr.mk b2 0 none) fun v31 =>
      C.call n_laws_toStore [(.agg v31)] [.agg] fun r32 =>
      C.call n_laws_toEntryS [(.slice x1.a x1.n x1.c)] [.slice] fun r34 =>
      C.call n_spec_StoreMap [(.agg r32), (.slice r34.a r34.n r34.c)] [.agg, .agg, (.int .i64)] fun r35 =>
      C.new ty_impl_Store (.agg (#[(.slice none 0 0)])) fun b6 =>
      C.new ty_impl_Key (.agg (Array.replicate 32 (.int .u8 0))) fun b7 =>
      C.st 1 (Addr.mk b6 0 none) (.agg r35.1) <|
      C.st 32 (Addr.mk b7 0 none) (.agg r35.2.1) <|
      C.ld .agg 1 (Addr.mk b2 0 none) fun v39 =>
      C.call n_laws_toStore [(.agg v39)] [.agg] fun r40 =>
      C.new ty_impl_Store (.agg (#[(.slice none 0 0)])) fun b9 =>
      C.st 1 (Addr.mk b9 0 none) (.agg r40) <|
      C.call n_laws_toEntryS [(.slice x1.a x1.n x1.c)] [.slice] fun r42 =>
      C.ld .agg 1 (Addr.mk b9 0 none) fun v44 =>
      C.call n_impl_StoreMap [(.agg v44), (.slice r42.a r42.n r42.c)] [.agg, .agg, (.int .i64)] fun r46 =>
      C.new ty_impl_Store (.agg (#[(.slice none 0 0)])) fun b11 =>
      C.new ty_impl_Key (.agg (Array.replicate 32 (.int .u8 0))) fun b12 =>
      C.st 1 (Addr.mk b11 0 none) (.agg r46.1) <|
      C.st 32 (Addr.mk b12 0 none) (.agg r46.2.1) <|
      C.join (TL []) (embL []) (fun s25 => C.any fun _ =>
          C.join (TL []) (embL []) (fun s30 => C.any fun _ =>
              C.call n_laws_toEntryS [(.slice x1.a x1.n x1.c)] [.slice] fun r72 =>
              C.call n_laws_eqEntryS [(.slice r42.a r42.n r42.c), (.slice r72.a r72.n r72.c)] [.bool] fun r73 =>
              cond (!r73) (
                C.ret (.bool false)
              ) (
                C.ld .agg 1 (Addr.mk b9 0 none) fun v75 =>
                C.call n_laws_markStore [(.agg v75), (.int .i64 1)] [(.int .i64)] fun r77 =>
                C.call n_laws_markEntryS [(.slice r42.a r42.n r42.c), (.int .i64 r77)] [(.int .i64)] fun r80 =>
                C.join (TL []) (embL []) (fun s42 => C.any fun _ =>
                    C.ld .agg 1 (Addr.mk b11 0 none) fun v100 =>
                    C.call n_laws_markStore [(.agg v100), (.int .i64 1)] [(.int .i64)] fun r102 =>
                    C.ld .agg 1 (Addr.mk b11 0 none) fun v103 =>
                    C.call n_laws_heldStore [(.agg v103), (.int .i64 1)] [(.int .i64)] fun r105 =>
                    cond (decide (r105 < 0)) (
                      C.ret (.bool false)
                    ) (
                      cond (r105 != r102) (
                        C.ret (.bool false)
                      ) (
                        C.ld .agg 1 (Addr.mk b2 0 none) fun v112 =>
                        C.call n_laws_toStore [(.agg v112)] [.agg] fun r113 =>
                        C.call n_laws_toEntryS [(.slice x1.a x1.n x1.c)] [.slice] fun r115 =>
                        C.call n_impl_StoreMap [(.agg r113), (.slice r115.a r115.n r115.c)] [.agg, .agg, (.int .i64)] fun r116 =>
                        C.new ty_impl_Store (.agg (#[(.slice none 0 0)])) fun b17 =>
                        C.new ty_impl_Key (.agg (Array.replicate 32 (.int .u8 0))) fun b18 =>
                        C.st 1 (Addr.mk b17 0 none) (.agg r116.1) <|
                        C.st 32 (Addr.mk b18 0 none) (.agg r116.2.1) <|
                        C.join (TL []) (embL []) (fun s59 => C.any fun _ =>
                            C.ld .agg 1 (Addr.mk b11 0 none) fun v135 =>
                            C.call n_laws_heldStore [(.agg v135), (.int .i64 1)] [(.int .i64)] fun r137 =>
                            cond (decide (r137 < 0)) (
                              C.ret (.bool false)
                            ) (
                              cond (r137 != r102) (
                                C.ret (.bool false)
                              ) (
                                C.ret (.bool true)
                              )
                            )
                          ) fun jt =>
                        C.ld .agg 1 (Addr.mk b17 0 none) fun v120 =>
                        C.ld .agg 1 (Addr.mk b6 0 none) fun v121 =>
                        C.call n_laws_eqStore [(.agg v120), (.agg v121)] [.bool] fun r122 =>
                        cond (!r122) (
                          C.ret (.bool false)
                        ) (
                          C.ld .agg 32 (Addr.mk b18 0 none) fun v125 =>
                          C.ld .agg 32 (Addr.mk b7 0 none) fun v126 =>
                          C.call n_laws_eqKey [(.agg v125), (.agg v126)] [.bool] fun r127 =>
                          cond (!r127) (
                            C.ret (.bool false)
                          ) (
                            cond (r116.2.2 != r35.2.2) (
                              C.ret (.bool false)
                            ) (
                              jt []
                            )
                          )
                        )
                      )
                    )
                  ) fun jt =>
                cond (decide (r80 < 0)) (
                  C.ret (.bool false)
                ) (
                  C.ld .agg 1 (Addr.mk b11 0 none) fun v84 =>
                  C.ld .agg 1 (Addr.mk b6 0 none) fun v85 =>
                  C.call n_laws_eqStore [(.agg v84), (.agg v85)] [.bool] fun r86 =>
                  cond (!r86) (
                    C.ret (.bool false)
                  ) (
                    C.ld .agg 32 (Addr.mk b12 0 none) fun v90 =>
                    C.ld .agg 32 (Addr.mk b7 0 none) fun v91 =>
                    C.call n_laws_eqKey [(.agg v90), (.agg v91)] [.bool] fun r92 =>
                    cond (!r92) (
                      C.ret (.bool false)
                    ) (
                      cond (r46.2.2 != r35.2.2) (
                        C.ret (.bool false)
                      ) (
                        jt []
                      )
                    )
                  )
                )
              )
            ) fun jt =>
          C.draw <|
          C.ld .agg 1 (Addr.mk b9 0 none) fun v65 =>
          C.ld .agg 1 (Addr.mk b2 0 none) fun v66 =>
          C.call n_laws_toStore [(.agg v66)] [.agg] fun r67 =>
          C.chk [⟨0, 1, (Addr.mk b9 0 none), .agg, v65⟩] <|
          C.call n_laws_eqStore [(.agg v65), (.agg r67)] [.bool] fun r68 =>
          cond (!r68) (
            C.ret (.bool false)
          ) (
            jt []
          )
        ) fun jt =>
      C.ld .agg 1 (Addr.mk b11 0 none) fun v50 =>
      C.ld .agg 1 (Addr.mk b6 0 none) fun v51 =>
      C.call n_laws_eqStore [(.agg v50), (.agg v51)] [.bool] fun r52 =>
      cond (!r52) (
        C.ret (.bool false)
      ) (
        C.ld .agg 32 (Addr.mk b12 0 none) fun v55 =>
        C.ld .agg 32 (Addr.mk b7 0 none) fun v56 =>
        C.call n_laws_eqKey [(.agg v55), (.agg v56)] [.bool] fun r57 =>
        cond (!r57) (
          C.ret (.bool false)
        ) (
          cond (r46.2.2 != r35.2.2) (
            C.ret (.bool false)
          ) (
            jt []
          )
        )
      )
    )
  )
theorem laws_FnExactStoreMap_eq (C : Comb) (x0 : Array Value) (x1 : Sl) : fT C Tryz.prog { loop := [], join := [(192, []), (207, []), (297, []), (402, [])], anyOrder := [14], pure := [] } n_laws_FnExactStoreMap [(.agg x0), (.slice x1.a x1.n x1.c)] = laws_FnExactStoreMap C x0 x1 := by kernel_rfl
theorem laws_FnExactStoreMap_calls {R : Value → World → Prop} {w : World} (x0 : Array Value) (x1 : Sl) (h : (laws_FnExactStoreMap (real Tryz.prog R) x0 x1 : World → Prop) w) :
    Calls Tryz.prog n_laws_FnExactStoreMap [(.agg x0), (.slice x1.a x1.n x1.c)].toArray w fun e w' => ∃ v, e = .returned v ∧ R v w' := fT_sound mixed { loop := [], join := [(192, []), (207, []), (297, []), (402, [])], anyOrder := [14], pure := [] } (by rw [laws_FnExactStoreMap_eq]; exact h)

/-- laws.szStore (4) -/
def laws_szStore (C : Comb) (x0 : Array Value) (x1 : Int) : C.St :=
  C.new ty_laws_Store (.agg x0) fun b2 =>
  C.ld .slice 1 ((Addr.mk b2 0 none).add 0) fun v6 =>
  C.call n_laws_szBlobS [(.slice v6.a v6.n v6.c), (.int .i64 x1)] [(.int .i64)] fun r8 =>
  cond (decide (r8 < 0)) (
    C.ret (.int .i64 (-1))
  ) (
    C.ret (.int .i64 r8)
  )
theorem laws_szStore_eq (C : Comb) (x0 : Array Value) (x1 : Int) : fT C Tryz.prog { loop := [], join := [], anyOrder := [], pure := [] } n_laws_szStore [(.agg x0), (.int .i64 x1)] = laws_szStore C x0 x1 := by kernel_rfl
theorem laws_szStore_calls {R : Value → World → Prop} {w : World} (x0 : Array Value) (x1 : Int) (h : (laws_szStore (real Tryz.prog R) x0 x1 : World → Prop) w) :
    Calls Tryz.prog n_laws_szStore [(.agg x0), (.int .i64 x1)].toArray w fun e w' => ∃ v, e = .returned v ∧ R v w' := fT_sound mixed { loop := [], join := [], anyOrder := [], pure := [] } (by rw [laws_szStore_eq]; exact h)

/-- laws.szEntryS (5) -/
def laws_szEntryS (C : Comb) (x0 : Sl) (x1 : Int) : C.St :=
  cond (decide ((IntKind.wrap .i64 (x1 - (x0.n : Int))) < 0)) (
    C.ret (.int .i64 (-1))
  ) (
    C.loop (TL [(.int .i64), (.int .i64)]) (embL [(.int .i64), (.int .i64)]) [(.int .i64 (IntKind.wrap .i64 (x1 - (x0.n : Int)))), (.int .i64 0)] fun s1 ct1 => C.any fun _ =>
    cond (decide (s1.2 < (x0.n : Int))) (
      C.ix x0.a x0.n 2 s1.2 fun p20 =>
      C.ld .agg 2 p20 fun v21 =>
      C.call n_laws_szEntry [(.agg v21), (.int .i64 s1.1)] [(.int .i64)] fun r23 =>
      cond (decide (r23 < 0)) (
        C.ret (.int .i64 (-1))
      ) (
        ct1 [(.int .i64 r23), (.int .i64 (IntKind.wrap .i64 (s1.2 + 1)))]
      )
    ) (
      C.ret (.int .i64 s1.1)
    )
  )
theorem laws_szEntryS_eq (C : Comb) (x0 : Sl) (x1 : Int) : fT C Tryz.prog { loop := [(5, [(1, (.int .i64)), (5, (.int .i64))])], join := [], anyOrder := [], pure := [] } n_laws_szEntryS [(.slice x0.a x0.n x0.c), (.int .i64 x1)] = laws_szEntryS C x0 x1 := by kernel_rfl
theorem laws_szEntryS_calls {R : Value → World → Prop} {w : World} (x0 : Sl) (x1 : Int) (h : (laws_szEntryS (real Tryz.prog R) x0 x1 : World → Prop) w) :
    Calls Tryz.prog n_laws_szEntryS [(.slice x0.a x0.n x0.c), (.int .i64 x1)].toArray w fun e w' => ∃ v, e = .returned v ∧ R v w' := fT_sound mixed { loop := [(5, [(1, (.int .i64)), (5, (.int .i64))])], join := [], anyOrder := [], pure := [] } (by rw [laws_szEntryS_eq]; exact h)

/-- spec.StoreMap (6) -/
def spec_StoreMap (C : Comb) (x0 : Array Value) (x1 : Sl) : C.St :=
  C.new ty_impl_Store (.agg x0) fun b2 =>
  C.new ty_impl_Store (.agg (#[(.slice none 0 0)])) fun b4 =>
  C.new ty_impl_Key (.agg (Array.replicate 32 (.int .u8 0))) fun b5 =>
  C.call n_spec_l05Open [(.pointer (some (Addr.mk b2 0 none)))] [.optr, .bool] fun r15 =>
  C.join (TL []) (embL []) (fun s12 => C.any fun _ =>
      C.call n_spec_l04Nodes [(.slice x1.a x1.n x1.c)] [.slice, .agg] fun r29 =>
      C.new ty_impl_Key (.agg (Array.replicate 32 (.int .u8 0))) fun b10 =>
      C.st 32 (Addr.mk b10 0 none) (.agg r29.2) <|
      C.loop (TL [(.int .i64)]) (embL [(.int .i64)]) [(.int .i64 0)] fun s15 ct15 => C.any fun _ =>
      cond (decide (s15 < (r29.1.n : Int))) (
        C.ix r29.1.a r29.1.n 66 s15 fun p42 =>
        C.call n_spec_l04Bytes [(.pointer (some p42))] [.slice] fun r43 =>
        C.pur (Instr.build ty_impl_Blob #[(0, (.int .u8 5)), (1, (.slice r43.a r43.n r43.c))]) .agg fun y44 =>
        C.call n_ptr_spec_l05Store_put [(.pointer r15.1), (.agg y44)] [.agg, (.int .i64)] fun r45 =>
        C.new ty_impl_Key (.agg (Array.replicate 32 (.int .u8 0))) fun b12 =>
        C.st 32 (Addr.mk b12 0 none) (.agg r45.1) <|
        cond (r45.2 != 0) (
          C.ld .agg 32 (Addr.mk b10 0 none) fun v51 =>
          C.call n_spec_l05Made [(.pointer r15.1), (.agg v51), (.int .i64 r45.2)] [.agg, .agg, (.int .i64)] fun r53 =>
          C.st 1 (Addr.mk b4 0 none) (.agg r53.1) <|
          C.st 32 (Addr.mk b5 0 none) (.agg r53.2.1) <|
          C.ld .agg 1 (Addr.mk b4 0 none) fun z23 =>
          C.ld .agg 32 (Addr.mk b5 0 none) fun z24 =>
          C.ret (.tuple #[(.agg z23), (.agg z24), (.int .i64 r53.2.2)])
        ) (
          ct15 [(.int .i64 (IntKind.wrap .i64 (s15 + 1)))]
        )
      ) (
        C.ld .agg 32 (Addr.mk b10 0 none) fun v58 =>
        C.call n_spec_l05Made [(.pointer r15.1), (.agg v58), (.int .i64 0)] [.agg, .agg, (.int .i64)] fun r59 =>
        C.st 1 (Addr.mk b4 0 none) (.agg r59.1) <|
        C.st 32 (Addr.mk b5 0 none) (.agg r59.2.1) <|
        C.ld .agg 1 (Addr.mk b4 0 none) fun z27 =>
        C.ld .agg 32 (Addr.mk b5 0 none) fun z28 =>
        C.ret (.tuple #[(.agg z27), (.agg z28), (.int .i64 r59.2.2)])
      )
    ) fun jt =>
  cond (!r15.2) (
    C.pur (Instr.build ty_impl_Store #[]) .agg fun y25 =>
    C.st 1 (Addr.mk b4 0 none) (.agg y25) <|
    C.st 32 (Addr.mk b5 0 none) (.agg (Array.replicate 32 (.int .u8 0))) <|
    C.ld .agg 1 (Addr.mk b4 0 none) fun z6 =>
    C.ld .agg 32 (Addr.mk b5 0 none) fun z7 =>
    C.ret (.tuple #[(.agg z6), (.agg z7), (.int .i64 1)])
  ) (
    C.call n_spec_l04Ok [(.slice x1.a x1.n x1.c)] [.bool] fun r22 =>
    cond (!r22) (
      C.pur (Instr.build ty_impl_Store #[]) .agg fun y25 =>
      C.st 1 (Addr.mk b4 0 none) (.agg y25) <|
      C.st 32 (Addr.mk b5 0 none) (.agg (Array.replicate 32 (.int .u8 0))) <|
      C.ld .agg 1 (Addr.mk b4 0 none) fun z10 =>
      C.ld .agg 32 (Addr.mk b5 0 none) fun z11 =>
      C.ret (.tuple #[(.agg z10), (.agg z11), (.int .i64 1)])
    ) (
      jt []
    )
  )
theorem spec_StoreMap_eq (C : Comb) (x0 : Array Value) (x1 : Sl) : fT C Tryz.prog { loop := [(6, [(11, (.int .i64))])], join := [(72, [])], anyOrder := [], pure := [] } n_spec_StoreMap [(.agg x0), (.slice x1.a x1.n x1.c)] = spec_StoreMap C x0 x1 := by kernel_rfl
theorem spec_StoreMap_calls {R : Value → World → Prop} {w : World} (x0 : Array Value) (x1 : Sl) (h : (spec_StoreMap (real Tryz.prog R) x0 x1 : World → Prop) w) :
    Calls Tryz.prog n_spec_StoreMap [(.agg x0), (.slice x1.a x1.n x1.c)].toArray w fun e w' => ∃ v, e = .returned v ∧ R v w' := fT_sound mixed { loop := [(6, [(11, (.int .i64))])], join := [(72, [])], anyOrder := [], pure := [] } (by rw [spec_StoreMap_eq]; exact h)

/-- laws.toStore (7) -/
def laws_toStore (C : Comb) (x0 : Array Value) : C.St :=
  C.new ty_laws_Store (.agg x0) fun b1 =>
  C.new ty_impl_Store (.agg (#[(.slice none 0 0)])) fun b2 =>
  C.new ty_impl_Store (.agg (#[(.slice none 0 0)])) fun b3 =>
  C.ld .slice 1 ((Addr.mk b1 0 none).add 0) fun v5 =>
  C.call n_laws_toBlobS [(.slice v5.a v5.n v5.c)] [.slice] fun r6 =>
  C.st 1 ((Addr.mk b3 0 none).add 0) (.slice r6.a r6.n r6.c) <|
  C.ld .agg 1 (Addr.mk b3 0 none) fun v8 =>
  C.st 1 (Addr.mk b2 0 none) (.agg v8) <|
  C.ld .agg 1 (Addr.mk b2 0 none) fun z7 =>
  C.ret (.agg z7)
theorem laws_toStore_eq (C : Comb) (x0 : Array Value) : fT C Tryz.prog { loop := [], join := [], anyOrder := [], pure := [] } n_laws_toStore [(.agg x0)] = laws_toStore C x0 := by kernel_rfl
theorem laws_toStore_calls {R : Value → World → Prop} {w : World} (x0 : Array Value) (h : (laws_toStore (real Tryz.prog R) x0 : World → Prop) w) :
    Calls Tryz.prog n_laws_toStore [(.agg x0)].toArray w fun e w' => ∃ v, e = .returned v ∧ R v w' := fT_sound mixed { loop := [], join := [], anyOrder := [], pure := [] } (by rw [laws_toStore_eq]; exact h)

/-- laws.toEntryS (8) -/
def laws_toEntryS (C : Comb) (x0 : Sl) : C.St :=
  C.sem (Instr.makeSlice ty_sl_impl_Entry (.int .i64 (x0.n : Int)) (.int .i64 (x0.n : Int))) .slice fun y7 =>
  C.loop (TL [(.int .i64)]) (embL [(.int .i64)]) [(.int .i64 0)] fun s2 ct2 => C.any fun _ =>
  cond (decide (s2 < (x0.n : Int))) (
    C.ix x0.a x0.n 2 s2 fun p18 =>
    C.ld .agg 2 p18 fun v19 =>
    C.call n_laws_toEntry [(.agg v19)] [.agg] fun r20 =>
    C.ix y7.a y7.n 2 s2 fun p21 =>
    C.st 2 p21 (.agg r20) <|
    ct2 [(.int .i64 (IntKind.wrap .i64 (s2 + 1)))]
  ) (
    C.ret (.slice y7.a y7.n y7.c)
  )
theorem laws_toEntryS_eq (C : Comb) (x0 : Sl) : fT C Tryz.prog { loop := [(3, [(4, (.int .i64))])], join := [], anyOrder := [], pure := [] } n_laws_toEntryS [(.slice x0.a x0.n x0.c)] = laws_toEntryS C x0 := by kernel_rfl
theorem laws_toEntryS_calls {R : Value → World → Prop} {w : World} (x0 : Sl) (h : (laws_toEntryS (real Tryz.prog R) x0 : World → Prop) w) :
    Calls Tryz.prog n_laws_toEntryS [(.slice x0.a x0.n x0.c)].toArray w fun e w' => ∃ v, e = .returned v ∧ R v w' := fT_sound mixed { loop := [(3, [(4, (.int .i64))])], join := [], anyOrder := [], pure := [] } (by rw [laws_toEntryS_eq]; exact h)

/-- impl.StoreMap (9) -/
def impl_StoreMap (C : Comb) (x0 : Array Value) (x1 : Sl) : C.St :=
  C.new ty_impl_Store (.agg x0) fun b2 =>
  C.new ty_impl_Store (.agg (#[(.slice none 0 0)])) fun b4 =>
  C.new ty_impl_Key (.agg (Array.replicate 32 (.int .u8 0))) fun b5 =>
  C.ld .agg 1 (Addr.mk b2 0 none) fun v16 =>
  C.call n_impl_newShop [(.agg v16)] [.optr, .bool] fun r17 =>
  C.join (TL []) (embL []) (fun s13 => C.any fun _ =>
      C.sem (Instr.buildSlice ty_sl_impl_Blob 0 #[]) .slice fun y29 =>
      C.call n_impl_allNodes [(.slice x1.a x1.n x1.c)] [.slice] fun r31 =>
      C.loop (TL [.slice, (.int .i64)]) (embL [.slice, (.int .i64)]) [(.slice y29.a y29.n y29.c), (.int .i64 0)] fun s16 ct16 => C.any fun _ =>
      cond (decide (s16.2 < (r31.n : Int))) (
        C.ix r31.a r31.n 66 s16.2 fun p35 =>
        C.ld .agg 66 p35 fun v36 =>
        C.new ty_impl_MapNode (.agg (#[(.int .u8 0), (.int .u8 0), (.int .u8 0), (.int .u8 0), (.int .u8 0), (.int .u8 0), (.int .u8 0), (.int .u8 0), (.int .u8 0), (.int .u8 0), (.int .u8 0), (.int .u8 0), (.int .u8 0), (.int .u8 0), (.int .u8 0), (.int .u8 0), (.int .u8 0), (.int .u8 0), (.int .u8 0), (.int .u8 0), (.int .u8 0), (.int .u8 0), (.int .u8 0), (.int .u8 0), (.int .u8 0), (.int .u8 0), (.int .u8 0), (.int .u8 0), (.int .u8 0), (.int .u8 0), (.int .u8 0), (.int .u8 0), (.int .u8 0), (.int .u8 0), (.int .u8 0), (.int .u8 0), (.int .u8 0), (.int .u8 0), (.int .u8 0), (.int .u8 0), (.int .u8 0), (.int .u8 0), (.int .u8 0), (.int .u8 0), (.int .u8 0), (.int .u8 0), (.int .u8 0), (.int .u8 0), (.int .u8 0), (.int .u8 0), (.int .u8 0), (.int .u8 0), (.int .u8 0), (.int .u8 0), (.int .u8 0), (.int .u8 0), (.int .u8 0), (.int .u8 0), (.int .u8 0), (.int .u8 0), (.int .u8 0), (.int .u8 0), (.int .u8 0), (.int .u8 0), (.string (⟨#[]⟩ : ByteArray)), (.string (⟨#[]⟩ : ByteArray))])) fun b11 =>
        C.st 66 (Addr.mk b11 0 none) (.agg v36) <|
        C.ld .agg 66 (Addr.mk b11 0 none) fun v38 =>
        C.call n_impl_MapNode_bytes [(.agg v38)] [.slice] fun r39 =>
        C.pur (Instr.build ty_impl_Blob #[(0, (.int .u8 5)), (1, (.slice r39.a r39.n r39.c))]) .agg fun y40 =>
        C.sem (Instr.buildSlice ty_sl_impl_Blob 1 #[(0, (.agg y40))]) .slice fun y41 =>
        C.sem (Builtin.append_ #[ty_sl_impl_Blob, ty_sl_impl_Blob] ty_sl_impl_Blob #[(.slice s16.1.a s16.1.n s16.1.c), (.slice y41.a y41.n y41.c)]) .slice fun y42 =>
        ct16 [(.slice y42.a y42.n y42.c), (.int .i64 (IntKind.wrap .i64 (s16.2 + 1)))]
      ) (
        C.call n_ptr_impl_shop_putAll [(.pointer r17.1), (.slice s16.1.a s16.1.n s16.1.c)] [.agg, .agg, (.int .i64)] fun r47 =>
        C.new ty_impl_Store (.agg (#[(.slice none 0 0)])) fun b12 =>
        C.new ty_impl_Key (.agg (Array.replicate 32 (.int .u8 0))) fun b13 =>
        C.st 1 (Addr.mk b12 0 none) (.agg r47.1) <|
        C.st 32 (Addr.mk b13 0 none) (.agg r47.2.1) <|
        cond (r47.2.2 != 0) (
          C.pur (Instr.build ty_impl_Store #[]) .agg fun y53 =>
          C.st 1 (Addr.mk b4 0 none) (.agg y53) <|
          C.st 32 (Addr.mk b5 0 none) (.agg (Array.replicate 32 (.int .u8 0))) <|
          C.ld .agg 1 (Addr.mk b4 0 none) fun z29 =>
          C.ld .agg 32 (Addr.mk b5 0 none) fun z30 =>
          C.ret (.tuple #[(.agg z29), (.agg z30), (.int .i64 r47.2.2)])
        ) (
          C.draw <|
          C.ld .agg 1 (Addr.mk b12 0 none) fun v56 =>
          C.call n_impl_treeOf [(.slice x1.a x1.n x1.c)] [.optr] fun r58 =>
          C.chk [⟨0, 1, (Addr.mk b12 0 none), .agg, v56⟩] <|
          C.call n_ptr_impl_tree_key [(.pointer r58)] [.agg] fun r59 =>
          C.chk [⟨0, 1, (Addr.mk b12 0 none), .agg, v56⟩] <|
          C.st 1 (Addr.mk b4 0 none) (.agg v56) <|
          C.st 32 (Addr.mk b5 0 none) (.agg r59) <|
          C.ld .agg 1 (Addr.mk b4 0 none) fun z34 =>
          C.ld .agg 32 (Addr.mk b5 0 none) fun z35 =>
          C.ret (.tuple #[(.agg z34), (.agg z35), (.int .i64 0)])
        )
      )
    ) fun jt =>
  cond (!r17.2) (
    C.pur (Instr.build ty_impl_Store #[]) .agg fun y27 =>
    C.st 1 (Addr.mk b4 0 none) (.agg y27) <|
    C.st 32 (Addr.mk b5 0 none) (.agg (Array.replicate 32 (.int .u8 0))) <|
    C.ld .agg 1 (Addr.mk b4 0 none) fun z7 =>
    C.ld .agg 32 (Addr.mk b5 0 none) fun z8 =>
    C.ret (.tuple #[(.agg z7), (.agg z8), (.int .i64 1)])
  ) (
    C.call n_impl_ValidEntries [(.slice x1.a x1.n x1.c)] [.bool] fun r24 =>
    cond (!r24) (
      C.pur (Instr.build ty_impl_Store #[]) .agg fun y27 =>
      C.st 1 (Addr.mk b4 0 none) (.agg y27) <|
      C.st 32 (Addr.mk b5 0 none) (.agg (Array.replicate 32 (.int .u8 0))) <|
      C.ld .agg 1 (Addr.mk b4 0 none) fun z11 =>
      C.ld .agg 32 (Addr.mk b5 0 none) fun z12 =>
      C.ret (.tuple #[(.agg z11), (.agg z12), (.int .i64 1)])
    ) (
      jt []
    )
  )
theorem impl_StoreMap_eq (C : Comb) (x0 : Array Value) (x1 : Sl) : fT C Tryz.prog { loop := [(6, [(9, .slice), (33, (.int .i64))])], join := [(78, [])], anyOrder := [13], pure := [] } n_impl_StoreMap [(.agg x0), (.slice x1.a x1.n x1.c)] = impl_StoreMap C x0 x1 := by kernel_rfl
theorem impl_StoreMap_calls {R : Value → World → Prop} {w : World} (x0 : Array Value) (x1 : Sl) (h : (impl_StoreMap (real Tryz.prog R) x0 x1 : World → Prop) w) :
    Calls Tryz.prog n_impl_StoreMap [(.agg x0), (.slice x1.a x1.n x1.c)].toArray w fun e w' => ∃ v, e = .returned v ∧ R v w' := fT_sound mixed { loop := [(6, [(9, .slice), (33, (.int .i64))])], join := [(78, [])], anyOrder := [13], pure := [] } (by rw [impl_StoreMap_eq]; exact h)

/-- laws.eqStore (10) -/
def laws_eqStore (C : Comb) (x0 : Array Value) (x1 : Array Value) : C.St :=
  C.new ty_impl_Store (.agg x0) fun b2 =>
  C.new ty_impl_Store (.agg x1) fun b3 =>
  C.ld .slice 1 ((Addr.mk b2 0 none).add 0) fun v6 =>
  C.ld .slice 1 ((Addr.mk b3 0 none).add 0) fun v8 =>
  C.call n_laws_eqBlobS [(.slice v6.a v6.n v6.c), (.slice v8.a v8.n v8.c)] [.bool] fun r9 =>
  cond (!r9) (
    C.ret (.bool false)
  ) (
    C.ret (.bool true)
  )
theorem laws_eqStore_eq (C : Comb) (x0 : Array Value) (x1 : Array Value) : fT C Tryz.prog { loop := [], join := [], anyOrder := [], pure := [] } n_laws_eqStore [(.agg x0), (.agg x1)] = laws_eqStore C x0 x1 := by kernel_rfl
theorem laws_eqStore_calls {R : Value → World → Prop} {w : World} (x0 : Array Value) (x1 : Array Value) (h : (laws_eqStore (real Tryz.prog R) x0 x1 : World → Prop) w) :
    Calls Tryz.prog n_laws_eqStore [(.agg x0), (.agg x1)].toArray w fun e w' => ∃ v, e = .returned v ∧ R v w' := fT_sound mixed { loop := [], join := [], anyOrder := [], pure := [] } (by rw [laws_eqStore_eq]; exact h)

/-- laws.eqKey (11) -/
def laws_eqKey (C : Comb) (x0 : Array Value) (x1 : Array Value) : C.St :=
  C.new ty_impl_Key (.agg x0) fun b2 =>
  C.new ty_impl_Key (.agg x1) fun b3 =>
  C.loop (TL [(.int .i64)]) (embL [(.int .i64)]) [(.int .i64 0)] fun s3 ct3 => C.any fun _ =>
  cond (decide (s3 < 32)) (
    C.draw <|
    C.ix (some (Addr.mk b2 0 none)) 32 1 s3 fun p11 =>
    C.ld (.int .u8) 1 p11 fun v12 =>
    C.ix (some (Addr.mk b3 0 none)) 32 1 s3 fun p14 =>
    C.ld (.int .u8) 1 p14 fun v15 =>
    cond (v12 != v15) (
      C.ret (.bool false)
    ) (
      ct3 [(.int .i64 (IntKind.wrap .i64 (s3 + 1)))]
    )
  ) (
    C.ret (.bool true)
  )
theorem laws_eqKey_eq (C : Comb) (x0 : Array Value) (x1 : Array Value) : fT C Tryz.prog { loop := [(2, [(5, (.int .i64))])], join := [], anyOrder := [], pure := [] } n_laws_eqKey [(.agg x0), (.agg x1)] = laws_eqKey C x0 x1 := by kernel_rfl
theorem laws_eqKey_calls {R : Value → World → Prop} {w : World} (x0 : Array Value) (x1 : Array Value) (h : (laws_eqKey (real Tryz.prog R) x0 x1 : World → Prop) w) :
    Calls Tryz.prog n_laws_eqKey [(.agg x0), (.agg x1)].toArray w fun e w' => ∃ v, e = .returned v ∧ R v w' := fT_sound mixed { loop := [(2, [(5, (.int .i64))])], join := [], anyOrder := [], pure := [] } (by rw [laws_eqKey_eq]; exact h)

/-- laws.eqEntryS (12) -/
def laws_eqEntryS (C : Comb) (x0 : Sl) (x1 : Sl) : C.St :=
  cond ((x0.n : Int) != (x1.n : Int)) (
    C.ret (.bool false)
  ) (
    C.loop (TL [(.int .i64)]) (embL [(.int .i64)]) [(.int .i64 0)] fun s1 ct1 => C.any fun _ =>
    cond (decide (s1 < (x0.n : Int))) (
      C.draw <|
      C.ix x0.a x0.n 2 s1 fun p19 =>
      C.ld .agg 2 p19 fun v20 =>
      C.ix x1.a x1.n 2 s1 fun p23 =>
      C.ld .agg 2 p23 fun v24 =>
      C.call n_laws_eqEntry [(.agg v20), (.agg v24)] [.bool] fun r25 =>
      cond (!r25) (
        C.ret (.bool false)
      ) (
        ct1 [(.int .i64 (IntKind.wrap .i64 (s1 + 1)))]
      )
    ) (
      C.ret (.bool true)
    )
  )
theorem laws_eqEntryS_eq (C : Comb) (x0 : Sl) (x1 : Sl) : fT C Tryz.prog { loop := [(4, [(5, (.int .i64))])], join := [], anyOrder := [6], pure := [] } n_laws_eqEntryS [(.slice x0.a x0.n x0.c), (.slice x1.a x1.n x1.c)] = laws_eqEntryS C x0 x1 := by kernel_rfl
theorem laws_eqEntryS_calls {R : Value → World → Prop} {w : World} (x0 : Sl) (x1 : Sl) (h : (laws_eqEntryS (real Tryz.prog R) x0 x1 : World → Prop) w) :
    Calls Tryz.prog n_laws_eqEntryS [(.slice x0.a x0.n x0.c), (.slice x1.a x1.n x1.c)].toArray w fun e w' => ∃ v, e = .returned v ∧ R v w' := fT_sound mixed { loop := [(4, [(5, (.int .i64))])], join := [], anyOrder := [6], pure := [] } (by rw [laws_eqEntryS_eq]; exact h)

/-- laws.markStore (13) -/
def laws_markStore (C : Comb) (x0 : Array Value) (x1 : Int) : C.St :=
  C.new ty_impl_Store (.agg x0) fun b2 =>
  C.ld .slice 1 ((Addr.mk b2 0 none).add 0) fun v6 =>
  C.call n_laws_markBlobS [(.slice v6.a v6.n v6.c), (.int .i64 x1)] [(.int .i64)] fun r8 =>
  C.ret (.int .i64 r8)
theorem laws_markStore_eq (C : Comb) (x0 : Array Value) (x1 : Int) : fT C Tryz.prog { loop := [], join := [], anyOrder := [], pure := [] } n_laws_markStore [(.agg x0), (.int .i64 x1)] = laws_markStore C x0 x1 := by kernel_rfl
theorem laws_markStore_calls {R : Value → World → Prop} {w : World} (x0 : Array Value) (x1 : Int) (h : (laws_markStore (real Tryz.prog R) x0 x1 : World → Prop) w) :
    Calls Tryz.prog n_laws_markStore [(.agg x0), (.int .i64 x1)].toArray w fun e w' => ∃ v, e = .returned v ∧ R v w' := fT_sound mixed { loop := [], join := [], anyOrder := [], pure := [] } (by rw [laws_markStore_eq]; exact h)

/-- laws.markEntryS (14) -/
def laws_markEntryS (C : Comb) (x0 : Sl) (x1 : Int) : C.St :=
  C.loop (TL [(.int .i64), (.int .i64)]) (embL [(.int .i64), (.int .i64)]) [(.int .i64 x1), (.int .i64 0)] fun s1 ct1 => C.any fun _ =>
  cond (decide (s1.2 < (x0.n : Int))) (
    C.call n_laws_markText [(.int .i64 s1.1)] [.str] fun r15 =>
    C.ix x0.a x0.n 2 s1.2 fun p16 =>
    C.st 1 (p16.add 0) (.string r15) <|
    C.call n_laws_markText [(.int .i64 (IntKind.wrap .i64 (s1.1 + 1)))] [.str] fun r23 =>
    C.ix x0.a x0.n 2 s1.2 fun p24 =>
    C.st 1 (p24.add 1) (.string r23) <|
    ct1 [(.int .i64 (IntKind.wrap .i64 ((IntKind.wrap .i64 (s1.1 + 1)) + 1))), (.int .i64 (IntKind.wrap .i64 (s1.2 + 1)))]
  ) (
    C.ret (.int .i64 s1.1)
  )
theorem laws_markEntryS_eq (C : Comb) (x0 : Sl) (x1 : Int) : fT C Tryz.prog { loop := [(2, [(1, (.int .i64)), (5, (.int .i64))])], join := [], anyOrder := [], pure := [] } n_laws_markEntryS [(.slice x0.a x0.n x0.c), (.int .i64 x1)] = laws_markEntryS C x0 x1 := by kernel_rfl
theorem laws_markEntryS_calls {R : Value → World → Prop} {w : World} (x0 : Sl) (x1 : Int) (h : (laws_markEntryS (real Tryz.prog R) x0 x1 : World → Prop) w) :
    Calls Tryz.prog n_laws_markEntryS [(.slice x0.a x0.n x0.c), (.int .i64 x1)].toArray w fun e w' => ∃ v, e = .returned v ∧ R v w' := fT_sound mixed { loop := [(2, [(1, (.int .i64)), (5, (.int .i64))])], join := [], anyOrder := [], pure := [] } (by rw [laws_markEntryS_eq]; exact h)

/-- laws.heldStore (15) -/
def laws_heldStore (C : Comb) (x0 : Array Value) (x1 : Int) : C.St :=
  C.new ty_impl_Store (.agg x0) fun b2 =>
  C.ld .slice 1 ((Addr.mk b2 0 none).add 0) fun v6 =>
  C.call n_laws_heldBlobS [(.slice v6.a v6.n v6.c), (.int .i64 x1)] [(.int .i64)] fun r8 =>
  cond (decide (r8 < 0)) (
    C.ret (.int .i64 (-1))
  ) (
    C.ret (.int .i64 r8)
  )
theorem laws_heldStore_eq (C : Comb) (x0 : Array Value) (x1 : Int) : fT C Tryz.prog { loop := [], join := [], anyOrder := [], pure := [] } n_laws_heldStore [(.agg x0), (.int .i64 x1)] = laws_heldStore C x0 x1 := by kernel_rfl
theorem laws_heldStore_calls {R : Value → World → Prop} {w : World} (x0 : Array Value) (x1 : Int) (h : (laws_heldStore (real Tryz.prog R) x0 x1 : World → Prop) w) :
    Calls Tryz.prog n_laws_heldStore [(.agg x0), (.int .i64 x1)].toArray w fun e w' => ∃ v, e = .returned v ∧ R v w' := fT_sound mixed { loop := [], join := [], anyOrder := [], pure := [] } (by rw [laws_heldStore_eq]; exact h)

/-- laws.szBlobS (16) -/
def laws_szBlobS (C : Comb) (x0 : Sl) (x1 : Int) : C.St :=
  cond (decide ((IntKind.wrap .i64 (x1 - (x0.n : Int))) < 0)) (
    C.ret (.int .i64 (-1))
  ) (
    C.loop (TL [(.int .i64), (.int .i64)]) (embL [(.int .i64), (.int .i64)]) [(.int .i64 (IntKind.wrap .i64 (x1 - (x0.n : Int)))), (.int .i64 0)] fun s1 ct1 => C.any fun _ =>
    cond (decide (s1.2 < (x0.n : Int))) (
      C.ix x0.a x0.n 2 s1.2 fun p20 =>
      C.ld .agg 2 p20 fun v21 =>
      C.call n_laws_szBlob [(.agg v21), (.int .i64 s1.1)] [(.int .i64)] fun r23 =>
      cond (decide (r23 < 0)) (
        C.ret (.int .i64 (-1))
      ) (
        ct1 [(.int .i64 r23), (.int .i64 (IntKind.wrap .i64 (s1.2 + 1)))]
      )
    ) (
      C.ret (.int .i64 s1.1)
    )
  )
theorem laws_szBlobS_eq (C : Comb) (x0 : Sl) (x1 : Int) : fT C Tryz.prog { loop := [(5, [(1, (.int .i64)), (5, (.int .i64))])], join := [], anyOrder := [], pure := [] } n_laws_szBlobS [(.slice x0.a x0.n x0.c), (.int .i64 x1)] = laws_szBlobS C x0 x1 := by kernel_rfl
theorem laws_szBlobS_calls {R : Value → World → Prop} {w : World} (x0 : Sl) (x1 : Int) (h : (laws_szBlobS (real Tryz.prog R) x0 x1 : World → Prop) w) :
    Calls Tryz.prog n_laws_szBlobS [(.slice x0.a x0.n x0.c), (.int .i64 x1)].toArray w fun e w' => ∃ v, e = .returned v ∧ R v w' := fT_sound mixed { loop := [(5, [(1, (.int .i64)), (5, (.int .i64))])], join := [], anyOrder := [], pure := [] } (by rw [laws_szBlobS_eq]; exact h)

/-- laws.szEntry (17) -/
def laws_szEntry (C : Comb) (x0 : Array Value) (x1 : Int) : C.St :=
  C.new ty_laws_Entry (.agg x0) fun b2 =>
  C.ld .str 1 ((Addr.mk b2 0 none).add 0) fun v7 =>
  cond (decide ((IntKind.wrap .i64 (x1 - (v7.size : Int))) < 0)) (
    C.ret (.int .i64 (-1))
  ) (
    C.ld .str 1 ((Addr.mk b2 0 none).add 1) fun v14 =>
    cond (decide ((IntKind.wrap .i64 ((IntKind.wrap .i64 (x1 - (v7.size : Int))) - (v14.size : Int))) < 0)) (
      C.ret (.int .i64 (-1))
    ) (
      C.ret (.int .i64 (IntKind.wrap .i64 ((IntKind.wrap .i64 (x1 - (v7.size : Int))) - (v14.size : Int))))
    )
  )
theorem laws_szEntry_eq (C : Comb) (x0 : Array Value) (x1 : Int) : fT C Tryz.prog { loop := [], join := [], anyOrder := [], pure := [] } n_laws_szEntry [(.agg x0), (.int .i64 x1)] = laws_szEntry C x0 x1 := by kernel_rfl
theorem laws_szEntry_calls {R : Value → World → Prop} {w : World} (x0 : Array Value) (x1 : Int) (h : (laws_szEntry (real Tryz.prog R) x0 x1 : World → Prop) w) :
    Calls Tryz.prog n_laws_szEntry [(.agg x0), (.int .i64 x1)].toArray w fun e w' => ∃ v, e = .returned v ∧ R v w' := fT_sound mixed { loop := [], join := [], anyOrder := [], pure := [] } (by rw [laws_szEntry_eq]; exact h)

/-- spec.l05Open (18) -/
def spec_l05Open (C : Comb) (x0 : Addr) : C.St :=
  C.pur (Instr.build ty_spec_l05Store #[]) .agg fun y7 =>
  C.new ty_spec_l05Store (.agg y7) fun b8 =>
  C.ld .slice 1 (x0.add 0) fun v12 =>
  cond (decide ((v12.n : Int) > 128)) (
    C.ret (.tuple #[(.pointer (some (Addr.mk b8 0 none))), (.bool false)])
  ) (
    C.loop (TL [(.int .i64)]) (embL [(.int .i64)]) [(.int .i64 0)] fun s4 ct4 => C.any fun _ =>
    C.ld .slice 1 (x0.add 0) fun v20 =>
    cond (decide (s4 < (v20.n : Int))) (
      C.ld .slice 1 (x0.add 0) fun v28 =>
      C.ix v28.a v28.n 2 s4 fun p30 =>
      C.call n_spec_l05Blob [(.pointer (some p30))] [.bool] fun r31 =>
      cond (!r31) (
        C.ret (.tuple #[(.pointer (some (Addr.mk b8 0 none))), (.bool false)])
      ) (
        C.ld .slice 1 (x0.add 0) fun v37 =>
        C.ix v37.a v37.n 2 s4 fun p39 =>
        C.call n_spec_l05Key [(.pointer (some p39))] [.agg] fun r40 =>
        C.new ty_impl_Key (.agg (Array.replicate 32 (.int .u8 0))) fun b6 =>
        C.st 32 (Addr.mk b6 0 none) (.agg r40) <|
        C.join (TL []) (embL []) (fun s26 => C.any fun _ =>
            C.join (TL []) (embL []) (fun s33 => C.any fun _ =>
                C.draw <|
                C.ld .slice 1 ((Addr.mk b8 0 none).add 1) fun v77 =>
                C.ld .agg 32 (Addr.mk b6 0 none) fun v78 =>
                C.sem (Instr.buildSlice ty_sl_impl_Key 1 #[(0, (.agg v78))]) .slice fun y79 =>
                C.chk [⟨4, 1, ((Addr.mk b8 0 none).add 1), .slice, v77⟩] <|
                C.sem (Builtin.append_ #[ty_sl_impl_Key, ty_sl_impl_Key] ty_sl_impl_Key #[(.slice v77.a v77.n v77.c), (.slice y79.a y79.n y79.c)]) .slice fun y80 =>
                C.st 1 ((Addr.mk b8 0 none).add 1) (.slice y80.a y80.n y80.c) <|
                ct4 [(.int .i64 (IntKind.wrap .i64 (s4 + 1)))]
              ) fun jt =>
            C.draw <|
            C.ld .slice 1 ((Addr.mk b8 0 none).add 0) fun v61 =>
            C.ld .slice 1 (x0.add 0) fun v65 =>
            C.ix v65.a v65.n 2 s4 fun p67 =>
            C.ld .agg 2 p67 fun v68 =>
            C.sem (Instr.buildSlice ty_sl_impl_Blob 1 #[(0, (.agg v68))]) .slice fun y69 =>
            C.chk [⟨8, 1, (x0.add 0), .slice, v65⟩, ⟨4, 1, ((Addr.mk b8 0 none).add 0), .slice, v61⟩] <|
            C.sem (Builtin.append_ #[ty_sl_impl_Blob, ty_sl_impl_Blob] ty_sl_impl_Blob #[(.slice v61.a v61.n v61.c), (.slice y69.a y69.n y69.c)]) .slice fun y70 =>
            C.chk [⟨8, 1, (x0.add 0), .slice, v65⟩] <|
            C.st 1 ((Addr.mk b8 0 none).add 0) (.slice y70.a y70.n y70.c) <|
            jt []
          ) fun jt =>
        C.draw <|
        cond (decide (s4 > 0)) (
          C.all [
            (C.ld .slice 1 ((Addr.mk b8 0 none).add 1) fun v47 =>
             C.ix v47.a v47.n 32 (IntKind.wrap .i64 (s4 - 1)) fun p50 =>
             C.all [
               (C.ld .agg 32 p50 fun v51 =>
                C.ld .agg 32 (Addr.mk b6 0 none) fun v52 =>
                C.call n_spec_l01Compare [(.agg v51), (.agg v52)] [(.int .i64)] fun r53 =>
                cond (decide (r53 ≥ 0)) (
                  C.ret (.tuple #[(.pointer (some (Addr.mk b8 0 none))), (.bool false)])
                ) (
                  jt []
                )),
               (C.ld .agg 32 (Addr.mk b6 0 none) fun v52 =>
                C.ld .agg 32 p50 fun v51 =>
                C.call n_spec_l01Compare [(.agg v51), (.agg v52)] [(.int .i64)] fun r53 =>
                cond (decide (r53 ≥ 0)) (
                  C.ret (.tuple #[(.pointer (some (Addr.mk b8 0 none))), (.bool false)])
                ) (
                  jt []
                ))]),
            (C.ld .agg 32 (Addr.mk b6 0 none) fun v52 =>
             C.ld .slice 1 ((Addr.mk b8 0 none).add 1) fun v47 =>
             C.ix v47.a v47.n 32 (IntKind.wrap .i64 (s4 - 1)) fun p50 =>
             C.ld .agg 32 p50 fun v51 =>
             C.call n_spec_l01Compare [(.agg v51), (.agg v52)] [(.int .i64)] fun r53 =>
             cond (decide (r53 ≥ 0)) (
               C.ret (.tuple #[(.pointer (some (Addr.mk b8 0 none))), (.bool false)])
             ) (
               jt []
             ))]
        ) (
          C.all [
            (C.all [
               (jt []),
               (jt [])]),
            (jt [])]
        )
      )
    ) (
      C.ret (.tuple #[(.pointer (some (Addr.mk b8 0 none))), (.bool true)])
    )
  )
theorem spec_l05Open_eq (C : Comb) (x0 : Addr) : fT C Tryz.prog { loop := [(5, [(5, (.int .i64))])], join := [(165, []), (37, [])], anyOrder := [10, 12, 13], pure := [] } n_spec_l05Open [(.pointer (some x0))] = spec_l05Open C x0 := by kernel_rfl
theorem spec_l05Open_calls {R : Value → World → Prop} {w : World} (x0 : Addr) (h : (spec_l05Open (real Tryz.prog R) x0 : World → Prop) w) :
    Calls Tryz.prog n_spec_l05Open [(.pointer (some x0))].toArray w fun e w' => ∃ v, e = .returned v ∧ R v w' := fT_sound mixed { loop := [(5, [(5, (.int .i64))])], join := [(165, []), (37, [])], anyOrder := [10, 12, 13], pure := [] } (by rw [spec_l05Open_eq]; exact h)

/-- spec.l04Ok (19) -/
def spec_l04Ok (C : Comb) (x0 : Sl) : C.St :=
  C.loop (TL [(.int .i64)]) (embL [(.int .i64)]) [(.int .i64 0)] fun s1 ct1 => C.any fun _ =>
  cond (decide (s1 < (x0.n : Int))) (
    C.draw <|
    C.ix x0.a x0.n 2 s1 fun p12 =>
    C.callQ n_spec_l04Entry [(.pointer (some p12))] [.bool] fun r13 =>
    cond (!r13) (
      C.ret (.bool false)
    ) (
      cond (decide (s1 > 0)) (
        C.ix x0.a x0.n 2 (IntKind.wrap .i64 (s1 - 1)) fun p22 =>
        C.ld .str 1 (p22.add 0) fun v24 =>
        C.ix x0.a x0.n 2 s1 fun p27 =>
        C.ld .str 1 (p27.add 0) fun v29 =>
        C.pur (eqB .geq ty_string (.tmp 24) (.tmp 29) (.string v24) (.string v29)) .bool fun y30 =>
        cond y30 (
          C.ret (.bool false)
        ) (
          ct1 [(.int .i64 (IntKind.wrap .i64 (s1 + 1)))]
        )
      ) (
        ct1 [(.int .i64 (IntKind.wrap .i64 (s1 + 1)))]
      )
    )
  ) (
    C.ret (.bool (decide ((x0.n : Int) ≤ 64)))
  )
theorem spec_l04Ok_eq (C : Comb) (x0 : Sl) : fT C Tryz.prog { loop := [(2, [(3, (.int .i64))])], join := [], anyOrder := [], pure := [] } n_spec_l04Ok [(.slice x0.a x0.n x0.c)] = spec_l04Ok C x0 := by kernel_rfl
theorem spec_l04Ok_calls {R : Value → World → Prop} {w : World} (x0 : Sl) (h : (spec_l04Ok (real Tryz.prog R) x0 : World → Prop) w) :
    Calls Tryz.prog n_spec_l04Ok [(.slice x0.a x0.n x0.c)].toArray w fun e w' => ∃ v, e = .returned v ∧ R v w' := fT_sound mixed { loop := [(2, [(3, (.int .i64))])], join := [], anyOrder := [], pure := [] } (by rw [spec_l04Ok_eq]; exact h)

/-- spec.l04Nodes (20) -/
def spec_l04Nodes (C : Comb) (x0 : Sl) : C.St :=
  C.new ty_impl_Key (.agg (Array.replicate 32 (.int .u8 0))) fun b3 =>
  cond ((x0.n : Int) == 0) (
    C.sem (Instr.buildSlice ty_sl_impl_MapNode 0 #[]) .slice fun y14 =>
    C.call n_spec_l04Empty [] [.agg] fun r15 =>
    C.st 32 (Addr.mk b3 0 none) (.agg r15) <|
    C.ld .agg 32 (Addr.mk b3 0 none) fun z4 =>
    C.ret (.tuple #[(.slice y14.a y14.n y14.c), (.agg z4)])
  ) (
    C.call n_spec_l04Top [(.slice x0.a x0.n x0.c)] [(.int .i64)] fun r17 =>
    C.sl x0.a x0.n x0.c 2 none (some r17) none fun y21 =>
    C.call n_spec_l04Nodes [(.slice y21.a y21.n y21.c)] [.slice, .agg] fun r22 =>
    C.new ty_impl_Key (.agg (Array.replicate 32 (.int .u8 0))) fun b6 =>
    C.st 32 (Addr.mk b6 0 none) (.agg r22.2) <|
    C.sl x0.a x0.n x0.c 2 (some (IntKind.wrap .i64 (r17 + 1))) none none fun y29 =>
    C.call n_spec_l04Nodes [(.slice y29.a y29.n y29.c)] [.slice, .agg] fun r30 =>
    C.new ty_impl_Key (.agg (Array.replicate 32 (.int .u8 0))) fun b8 =>
    C.st 32 (Addr.mk b8 0 none) (.agg r30.2) <|
    C.join (TL [.ptr]) (embL [.ptr]) (fun s18 => C.any fun _ =>
        C.ld .agg 66 s18 fun v40 =>
        C.sem (Instr.buildSlice ty_sl_impl_MapNode 1 #[(0, (.agg v40))]) .slice fun y41 =>
        C.sem (Builtin.append_ #[ty_sl_impl_MapNode, ty_sl_impl_MapNode] ty_sl_impl_MapNode #[(.slice y41.a y41.n y41.c), (.slice r22.1.a r22.1.n r22.1.c)]) .slice fun y43 =>
        C.sem (Builtin.append_ #[ty_sl_impl_MapNode, ty_sl_impl_MapNode] ty_sl_impl_MapNode #[(.slice y43.a y43.n y43.c), (.slice r30.1.a r30.1.n r30.1.c)]) .slice fun y46 =>
        C.call n_spec_l04NodeKey [(.pointer (some s18))] [.agg] fun r47 =>
        C.st 32 (Addr.mk b3 0 none) (.agg r47) <|
        C.ld .agg 32 (Addr.mk b3 0 none) fun z24 =>
        C.ret (.tuple #[(.slice y46.a y46.n y46.c), (.agg z24)])
      ) fun jt =>
    C.draw <|
    C.ld .agg 32 (Addr.mk b6 0 none) fun v33 =>
    C.ld .agg 32 (Addr.mk b8 0 none) fun v34 =>
    C.ix x0.a x0.n 2 r17 fun p37 =>
    C.ld .agg 2 p37 fun v38 =>
    C.pur (Instr.build ty_impl_MapNode #[(0, (.agg v33)), (1, (.agg v34)), (2, (.agg v38))]) .agg fun y39 =>
    C.new ty_impl_MapNode (.agg (#[(.int .u8 0), (.int .u8 0), (.int .u8 0), (.int .u8 0), (.int .u8 0), (.int .u8 0), (.int .u8 0), (.int .u8 0), (.int .u8 0), (.int .u8 0), (.int .u8 0), (.int .u8 0), (.int .u8 0), (.int .u8 0), (.int .u8 0), (.int .u8 0), (.int .u8 0), (.int .u8 0), (.int .u8 0), (.int .u8 0), (.int .u8 0), (.int .u8 0), (.int .u8 0), (.int .u8 0), (.int .u8 0), (.int .u8 0), (.int .u8 0), (.int .u8 0), (.int .u8 0), (.int .u8 0), (.int .u8 0), (.int .u8 0), (.int .u8 0), (.int .u8 0), (.int .u8 0), (.int .u8 0), (.int .u8 0), (.int .u8 0), (.int .u8 0), (.int .u8 0), (.int .u8 0), (.int .u8 0), (.int .u8 0), (.int .u8 0), (.int .u8 0), (.int .u8 0), (.int .u8 0), (.int .u8 0), (.int .u8 0), (.int .u8 0), (.int .u8 0), (.int .u8 0), (.int .u8 0), (.int .u8 0), (.int .u8 0), (.int .u8 0), (.int .u8 0), (.int .u8 0), (.int .u8 0), (.int .u8 0), (.int .u8 0), (.int .u8 0), (.int .u8 0), (.int .u8 0), (.string (⟨#[]⟩ : ByteArray)), (.string (⟨#[]⟩ : ByteArray))])) fun b9 =>
    C.chk [⟨5, 2, p37, .agg, v38⟩, ⟨1, 32, (Addr.mk b8 0 none), .agg, v34⟩, ⟨0, 32, (Addr.mk b6 0 none), .agg, v33⟩] <|
    C.st 66 (Addr.mk b9 0 none) (.agg y39) <|
    jt [(.pointer (some (Addr.mk b9 0 none)))]
  )
theorem spec_l04Nodes_eq (C : Comb) (x0 : Sl) : fT C Tryz.prog { loop := [], join := [(19, [(9, .ptr)])], anyOrder := [6], pure := [] } n_spec_l04Nodes [(.slice x0.a x0.n x0.c)] = spec_l04Nodes C x0 := by kernel_rfl
theorem spec_l04Nodes_calls {R : Value → World → Prop} {w : World} (x0 : Sl) (h : (spec_l04Nodes (real Tryz.prog R) x0 : World → Prop) w) :
    Calls Tryz.prog n_spec_l04Nodes [(.slice x0.a x0.n x0.c)].toArray w fun e w' => ∃ v, e = .returned v ∧ R v w' := fT_sound mixed { loop := [], join := [(19, [(9, .ptr)])], anyOrder := [6], pure := [] } (by rw [spec_l04Nodes_eq]; exact h)

/-- (*spec.l05Store).put (21) -/
def ptr_spec_l05Store_put (C : Comb) (x0 : Addr) (x1 : Array Value) : C.St :=
  C.new ty_impl_Blob (.agg x1) fun b3 =>
  C.new ty_impl_Key (.agg (Array.replicate 32 (.int .u8 0))) fun b4 =>
  C.call n_spec_l05Key [(.pointer (some (Addr.mk b3 0 none)))] [.agg] fun r10 =>
  C.new ty_impl_Key (.agg (Array.replicate 32 (.int .u8 0))) fun b6 =>
  C.st 32 (Addr.mk b6 0 none) (.agg r10) <|
  C.join (TL [(.int .i64)]) (embL [(.int .i64)]) (fun s20 => C.any fun _ =>
      C.join (TL [.bool]) (embL [.bool]) (fun s27 => C.any fun _ =>
          cond s27 (
            C.ld .slice 1 (x0.add 0) fun v53 =>
            C.ix v53.a v53.n 2 s20 fun p55 =>
            C.call n_spec_l05SameBlob [(.pointer (some p55)), (.pointer (some (Addr.mk b3 0 none)))] [.bool] fun r56 =>
            cond (!r56) (
              C.st 32 (Addr.mk b4 0 none) (.agg (Array.replicate 32 (.int .u8 0))) <|
              C.ld .agg 32 (Addr.mk b4 0 none) fun z31 =>
              C.ret (.tuple #[(.agg z31), (.int .i64 8)])
            ) (
              C.ld .agg 32 (Addr.mk b6 0 none) fun v59 =>
              C.st 32 (Addr.mk b4 0 none) (.agg v59) <|
              C.ld .agg 32 (Addr.mk b4 0 none) fun z33 =>
              C.ret (.tuple #[(.agg z33), (.int .i64 0)])
            )
          ) (
            C.ld .slice 1 (x0.add 1) fun v63 =>
            cond (decide ((v63.n : Int) ≥ 128)) (
              C.st 32 (Addr.mk b4 0 none) (.agg (Array.replicate 32 (.int .u8 0))) <|
              C.ld .agg 32 (Addr.mk b4 0 none) fun z35 =>
              C.ret (.tuple #[(.agg z35), (.int .i64 3)])
            ) (
              C.join (TL [.slice]) (embL [.slice]) (fun s41 => C.any fun _ =>
                  C.sem (Instr.buildSlice ty_sl_impl_Blob 0 #[]) .slice fun y77 =>
                  C.ld .slice 1 (x0.add 0) fun v81 =>
                  C.sl v81.a v81.n v81.c 2 none (some s20) none fun y83 =>
                  C.sem (Builtin.append_ #[ty_sl_impl_Blob, ty_sl_impl_Blob] ty_sl_impl_Blob #[(.slice y77.a y77.n y77.c), (.slice y83.a y83.n y83.c)]) .slice fun y84 =>
                  C.sem (Builtin.append_ #[ty_sl_impl_Blob, ty_sl_impl_Blob] ty_sl_impl_Blob #[(.slice y84.a y84.n y84.c), (.slice s41.a s41.n s41.c)]) .slice fun y86 =>
                  C.st 1 (x0.add 0) (.slice y86.a y86.n y86.c) <|
                  C.join (TL [.slice]) (embL [.slice]) (fun s52 => C.any fun _ =>
                      C.sem (Instr.buildSlice ty_sl_impl_Key 0 #[]) .slice fun y99 =>
                      C.ld .slice 1 (x0.add 1) fun v103 =>
                      C.sl v103.a v103.n v103.c 32 none (some s20) none fun y105 =>
                      C.sem (Builtin.append_ #[ty_sl_impl_Key, ty_sl_impl_Key] ty_sl_impl_Key #[(.slice y99.a y99.n y99.c), (.slice y105.a y105.n y105.c)]) .slice fun y106 =>
                      C.sem (Builtin.append_ #[ty_sl_impl_Key, ty_sl_impl_Key] ty_sl_impl_Key #[(.slice y106.a y106.n y106.c), (.slice s52.a s52.n s52.c)]) .slice fun y108 =>
                      C.st 1 (x0.add 1) (.slice y108.a y108.n y108.c) <|
                      C.ld .agg 32 (Addr.mk b6 0 none) fun v111 =>
                      C.st 32 (Addr.mk b4 0 none) (.agg v111) <|
                      C.ld .agg 32 (Addr.mk b4 0 none) fun z59 =>
                      C.ret (.tuple #[(.agg z59), (.int .i64 0)])
                    ) fun jt =>
                  C.draw <|
                  C.ld .agg 32 (Addr.mk b6 0 none) fun v89 =>
                  C.ld .slice 1 (x0.add 1) fun v94 =>
                  C.sl v94.a v94.n v94.c 32 (some s20) none none fun y96 =>
                  C.sem (Instr.buildSlice ty_sl_impl_Key 1 #[(0, (.agg v89))]) .slice fun y90 =>
                  C.chk [⟨5, 1, (x0.add 1), .slice, v94⟩] <|
                  C.sem (Builtin.append_ #[ty_sl_impl_Key, ty_sl_impl_Key] ty_sl_impl_Key #[(.slice y90.a y90.n y90.c), (.slice y96.a y96.n y96.c)]) .slice fun y97 =>
                  C.chk [⟨5, 1, (x0.add 1), .slice, v94⟩] <|
                  jt [(.slice y97.a y97.n y97.c)]
                ) fun jt =>
              C.draw <|
              C.ld .agg 2 (Addr.mk b3 0 none) fun v67 =>
              C.ld .slice 1 (x0.add 0) fun v72 =>
              C.sl v72.a v72.n v72.c 2 (some s20) none none fun y74 =>
              C.sem (Instr.buildSlice ty_sl_impl_Blob 1 #[(0, (.agg v67))]) .slice fun y68 =>
              C.chk [⟨5, 1, (x0.add 0), .slice, v72⟩] <|
              C.sem (Builtin.append_ #[ty_sl_impl_Blob, ty_sl_impl_Blob] ty_sl_impl_Blob #[(.slice y68.a y68.n y68.c), (.slice y74.a y74.n y74.c)]) .slice fun y75 =>
              C.chk [⟨5, 1, (x0.add 0), .slice, v72⟩] <|
              jt [(.slice y75.a y75.n y75.c)]
            )
          )
        ) fun jt =>
      C.draw <|
      C.ld .slice 1 (x0.add 1) fun v36 =>
      cond (decide (s20 < (v36.n : Int))) (
        C.ld .slice 1 (x0.add 1) fun v43 =>
        C.ix v43.a v43.n 32 s20 fun p45 =>
        C.ld .agg 32 p45 fun v46 =>
        C.ld .agg 32 (Addr.mk b6 0 none) fun v47 =>
        C.pur (eqB .eql ty_impl_Key (.tmp 46) (.tmp 47) (.agg v46) (.agg v47)) .bool fun y48 =>
        jt [(.bool y48)]
      ) (
        jt [(.bool false)]
      )
    ) fun jt =>
  C.loop (TL [(.int .i64)]) (embL [(.int .i64)]) [(.int .i64 0)] fun s5 ct5 => C.any fun _ =>
  C.draw <|
  C.ld .slice 1 (x0.add 1) fun v15 =>
  cond (decide (s5 < (v15.n : Int))) (
    C.all [
      (C.ld .slice 1 (x0.add 1) fun v22 =>
       C.chk [⟨4, 1, (x0.add 1), .slice, v15⟩] <|
       C.ix v22.a v22.n 32 s5 fun p24 =>
       C.all [
         (C.ld .agg 32 p24 fun v25 =>
          C.chk [⟨4, 1, (x0.add 1), .slice, v15⟩] <|
          C.ld .agg 32 (Addr.mk b6 0 none) fun v26 =>
          C.chk [⟨4, 1, (x0.add 1), .slice, v15⟩] <|
          C.call n_spec_l01Compare [(.agg v25), (.agg v26)] [(.int .i64)] fun r27 =>
          C.chk [⟨4, 1, (x0.add 1), .slice, v15⟩] <|
          cond (decide (r27 < 0)) (
            ct5 [(.int .i64 (IntKind.wrap .i64 (s5 + 1)))]
          ) (
            jt [(.int .i64 s5)]
          )),
         (C.ld .agg 32 (Addr.mk b6 0 none) fun v26 =>
          C.chk [⟨4, 1, (x0.add 1), .slice, v15⟩] <|
          C.ld .agg 32 p24 fun v25 =>
          C.chk [⟨4, 1, (x0.add 1), .slice, v15⟩] <|
          C.call n_spec_l01Compare [(.agg v25), (.agg v26)] [(.int .i64)] fun r27 =>
          C.chk [⟨4, 1, (x0.add 1), .slice, v15⟩] <|
          cond (decide (r27 < 0)) (
            ct5 [(.int .i64 (IntKind.wrap .i64 (s5 + 1)))]
          ) (
            jt [(.int .i64 s5)]
          ))]),
      (C.ld .agg 32 (Addr.mk b6 0 none) fun v26 =>
       C.chk [⟨4, 1, (x0.add 1), .slice, v15⟩] <|
       C.ld .slice 1 (x0.add 1) fun v22 =>
       C.chk [⟨4, 1, (x0.add 1), .slice, v15⟩] <|
       C.ix v22.a v22.n 32 s5 fun p24 =>
       C.ld .agg 32 p24 fun v25 =>
       C.chk [⟨4, 1, (x0.add 1), .slice, v15⟩] <|
       C.call n_spec_l01Compare [(.agg v25), (.agg v26)] [(.int .i64)] fun r27 =>
       C.chk [⟨4, 1, (x0.add 1), .slice, v15⟩] <|
       cond (decide (r27 < 0)) (
         ct5 [(.int .i64 (IntKind.wrap .i64 (s5 + 1)))]
       ) (
         jt [(.int .i64 s5)]
       ))]
  ) (
    C.all [
      (C.chk [⟨4, 1, (x0.add 1), .slice, v15⟩] <|
       C.all [
         (C.chk [⟨4, 1, (x0.add 1), .slice, v15⟩] <|
          C.chk [⟨4, 1, (x0.add 1), .slice, v15⟩] <|
          C.chk [⟨4, 1, (x0.add 1), .slice, v15⟩] <|
          jt [(.int .i64 s5)]),
         (C.chk [⟨4, 1, (x0.add 1), .slice, v15⟩] <|
          C.chk [⟨4, 1, (x0.add 1), .slice, v15⟩] <|
          C.chk [⟨4, 1, (x0.add 1), .slice, v15⟩] <|
          jt [(.int .i64 s5)])]),
      (C.chk [⟨4, 1, (x0.add 1), .slice, v15⟩] <|
       C.chk [⟨4, 1, (x0.add 1), .slice, v15⟩] <|
       C.chk [⟨4, 1, (x0.add 1), .slice, v15⟩] <|
       C.chk [⟨4, 1, (x0.add 1), .slice, v15⟩] <|
       jt [(.int .i64 s5)])]
  )
theorem ptr_spec_l05Store_put_eq (C : Comb) (x0 : Addr) (x1 : Array Value) : fT C Tryz.prog { loop := [(3, [(7, (.int .i64))])], join := [(11, [(7, (.int .i64))]), (16, [(49, .bool)]), (34, [(8, .slice)]), (40, [(9, .slice)])], anyOrder := [3, 11, 13], pure := [] } n_ptr_spec_l05Store_put [(.pointer (some x0)), (.agg x1)] = ptr_spec_l05Store_put C x0 x1 := by kernel_rfl
theorem ptr_spec_l05Store_put_calls {R : Value → World → Prop} {w : World} (x0 : Addr) (x1 : Array Value) (h : (ptr_spec_l05Store_put (real Tryz.prog R) x0 x1 : World → Prop) w) :
    Calls Tryz.prog n_ptr_spec_l05Store_put [(.pointer (some x0)), (.agg x1)].toArray w fun e w' => ∃ v, e = .returned v ∧ R v w' := fT_sound mixed { loop := [(3, [(7, (.int .i64))])], join := [(11, [(7, (.int .i64))]), (16, [(49, .bool)]), (34, [(8, .slice)]), (40, [(9, .slice)])], anyOrder := [3, 11, 13], pure := [] } (by rw [ptr_spec_l05Store_put_eq]; exact h)

/-- spec.l04Bytes (22) -/
def spec_l04Bytes (C : Comb) (x0 : Addr) : C.St :=
  C.sem (Instr.buildSlice ty_sl_uint8 0 #[]) .slice fun y6 =>
  C.loop (TL [.slice, (.int .i64)]) (embL [.slice, (.int .i64)]) [(.slice y6.a y6.n y6.c), (.int .i64 0)] fun s2 ct2 => C.any fun _ =>
  cond (decide (s2.2 < 32)) (
    C.ix (some (x0.add 0)) 32 1 s2.2 fun p16 =>
    C.ld (.int .u8) 1 p16 fun v17 =>
    C.sem (Instr.buildSlice ty_sl_uint8 1 #[(0, (.int .u8 v17))]) .slice fun y18 =>
    C.sem (Builtin.append_ #[ty_sl_uint8, ty_sl_uint8] ty_sl_uint8 #[(.slice s2.1.a s2.1.n s2.1.c), (.slice y18.a y18.n y18.c)]) .slice fun y19 =>
    ct2 [(.slice y19.a y19.n y19.c), (.int .i64 (IntKind.wrap .i64 (s2.2 + 1)))]
  ) (
    C.loop (TL [.slice, (.int .i64)]) (embL [.slice, (.int .i64)]) [(.slice s2.1.a s2.1.n s2.1.c), (.int .i64 0)] fun s7 ct7 => C.any fun _ =>
    cond (decide (s7.2 < 32)) (
      C.ix (some (x0.add 32)) 32 1 s7.2 fun p29 =>
      C.ld (.int .u8) 1 p29 fun v30 =>
      C.sem (Instr.buildSlice ty_sl_uint8 1 #[(0, (.int .u8 v30))]) .slice fun y31 =>
      C.sem (Builtin.append_ #[ty_sl_uint8, ty_sl_uint8] ty_sl_uint8 #[(.slice s7.1.a s7.1.n s7.1.c), (.slice y31.a y31.n y31.c)]) .slice fun y32 =>
      ct7 [(.slice y32.a y32.n y32.c), (.int .i64 (IntKind.wrap .i64 (s7.2 + 1)))]
    ) (
      C.ld .str 1 ((x0.add 64).add 0) fun v38 =>
      C.sem (Instr.buildSlice ty_sl_uint8 1 #[(0, (.int .u8 (IntKind.wrap .u8 ((v38.size : Int)))))]) .slice fun y41 =>
      C.sem (Builtin.append_ #[ty_sl_uint8, ty_sl_uint8] ty_sl_uint8 #[(.slice s7.1.a s7.1.n s7.1.c), (.slice y41.a y41.n y41.c)]) .slice fun y42 =>
      C.ld .str 1 ((x0.add 64).add 0) fun v48 =>
      C.sem (convert ty_string ty_sl_uint8 (.string v48)) .slice fun y49 =>
      C.sem (Builtin.append_ #[ty_sl_uint8, ty_sl_uint8] ty_sl_uint8 #[(.slice y42.a y42.n y42.c), (.slice y49.a y49.n y49.c)]) .slice fun y50 =>
      C.ld .str 1 ((x0.add 64).add 1) fun v56 =>
      C.sem (convert ty_string ty_sl_uint8 (.string v56)) .slice fun y57 =>
      C.sem (Builtin.append_ #[ty_sl_uint8, ty_sl_uint8] ty_sl_uint8 #[(.slice y50.a y50.n y50.c), (.slice y57.a y57.n y57.c)]) .slice fun y58 =>
      C.ret (.slice y58.a y58.n y58.c)
    )
  )
theorem spec_l04Bytes_eq (C : Comb) (x0 : Addr) : fT C Tryz.prog { loop := [(3, [(3, .slice), (4, (.int .i64))]), (7, [(3, .slice), (5, (.int .i64))])], join := [], anyOrder := [], pure := [] } n_spec_l04Bytes [(.pointer (some x0))] = spec_l04Bytes C x0 := by kernel_rfl
theorem spec_l04Bytes_calls {R : Value → World → Prop} {w : World} (x0 : Addr) (h : (spec_l04Bytes (real Tryz.prog R) x0 : World → Prop) w) :
    Calls Tryz.prog n_spec_l04Bytes [(.pointer (some x0))].toArray w fun e w' => ∃ v, e = .returned v ∧ R v w' := fT_sound mixed { loop := [(3, [(3, .slice), (4, (.int .i64))]), (7, [(3, .slice), (5, (.int .i64))])], join := [], anyOrder := [], pure := [] } (by rw [spec_l04Bytes_eq]; exact h)

/-- spec.l05Made (23) -/
def spec_l05Made (C : Comb) (x0 : Addr) (x1 : Array Value) (x2 : Int) : C.St :=
  C.new ty_impl_Key (.agg x1) fun b4 =>
  C.new ty_impl_Store (.agg (#[(.slice none 0 0)])) fun b6 =>
  C.new ty_impl_Key (.agg (Array.replicate 32 (.int .u8 0))) fun b7 =>
  cond (x2 != 0) (
    C.pur (Instr.build ty_impl_Store #[]) .agg fun y11 =>
    C.st 1 (Addr.mk b6 0 none) (.agg y11) <|
    C.st 32 (Addr.mk b7 0 none) (.agg (Array.replicate 32 (.int .u8 0))) <|
    C.ld .agg 1 (Addr.mk b6 0 none) fun z5 =>
    C.ld .agg 32 (Addr.mk b7 0 none) fun z6 =>
    C.ret (.tuple #[(.agg z5), (.agg z6), (.int .i64 x2)])
  ) (
    C.draw <|
    C.ld .agg 32 (Addr.mk b4 0 none) fun v16 =>
    C.call n_ptr_spec_l05Store_store [(.pointer (some x0))] [.agg] fun r15 =>
    C.chk [⟨2, 32, (Addr.mk b4 0 none), .agg, v16⟩] <|
    C.st 1 (Addr.mk b6 0 none) (.agg r15) <|
    C.chk [⟨2, 32, (Addr.mk b4 0 none), .agg, v16⟩] <|
    C.st 32 (Addr.mk b7 0 none) (.agg v16) <|
    C.ld .agg 1 (Addr.mk b6 0 none) fun z9 =>
    C.ld .agg 32 (Addr.mk b7 0 none) fun z10 =>
    C.ret (.tuple #[(.agg z9), (.agg z10), (.int .i64 0)])
  )
theorem spec_l05Made_eq (C : Comb) (x0 : Addr) (x1 : Array Value) (x2 : Int) : fT C Tryz.prog { loop := [], join := [], anyOrder := [3], pure := [] } n_spec_l05Made [(.pointer (some x0)), (.agg x1), (.int .i64 x2)] = spec_l05Made C x0 x1 x2 := by kernel_rfl
theorem spec_l05Made_calls {R : Value → World → Prop} {w : World} (x0 : Addr) (x1 : Array Value) (x2 : Int) (h : (spec_l05Made (real Tryz.prog R) x0 x1 x2 : World → Prop) w) :
    Calls Tryz.prog n_spec_l05Made [(.pointer (some x0)), (.agg x1), (.int .i64 x2)].toArray w fun e w' => ∃ v, e = .returned v ∧ R v w' := fT_sound mixed { loop := [], join := [], anyOrder := [3], pure := [] } (by rw [spec_l05Made_eq]; exact h)

/-- laws.toBlobS (24) -/
def laws_toBlobS (C : Comb) (x0 : Sl) : C.St :=
  C.sem (Instr.makeSlice ty_sl_impl_Blob (.int .i64 (x0.n : Int)) (.int .i64 (x0.n : Int))) .slice fun y7 =>
  C.loop (TL [(.int .i64)]) (embL [(.int .i64)]) [(.int .i64 0)] fun s2 ct2 => C.any fun _ =>
  cond (decide (s2 < (x0.n : Int))) (
    C.ix x0.a x0.n 2 s2 fun p18 =>
    C.ld .agg 2 p18 fun v19 =>
    C.call n_laws_toBlob [(.agg v19)] [.agg] fun r20 =>
    C.ix y7.a y7.n 2 s2 fun p21 =>
    C.st 2 p21 (.agg r20) <|
    ct2 [(.int .i64 (IntKind.wrap .i64 (s2 + 1)))]
  ) (
    C.ret (.slice y7.a y7.n y7.c)
  )
theorem laws_toBlobS_eq (C : Comb) (x0 : Sl) : fT C Tryz.prog { loop := [(3, [(4, (.int .i64))])], join := [], anyOrder := [], pure := [] } n_laws_toBlobS [(.slice x0.a x0.n x0.c)] = laws_toBlobS C x0 := by kernel_rfl
theorem laws_toBlobS_calls {R : Value → World → Prop} {w : World} (x0 : Sl) (h : (laws_toBlobS (real Tryz.prog R) x0 : World → Prop) w) :
    Calls Tryz.prog n_laws_toBlobS [(.slice x0.a x0.n x0.c)].toArray w fun e w' => ∃ v, e = .returned v ∧ R v w' := fT_sound mixed { loop := [(3, [(4, (.int .i64))])], join := [], anyOrder := [], pure := [] } (by rw [laws_toBlobS_eq]; exact h)

/-- laws.toEntry (25) -/
def laws_toEntry (C : Comb) (x0 : Array Value) : C.St :=
  C.new ty_laws_Entry (.agg x0) fun b1 =>
  C.new ty_impl_Entry (.agg (#[(.string (⟨#[]⟩ : ByteArray)), (.string (⟨#[]⟩ : ByteArray))])) fun b2 =>
  C.new ty_impl_Entry (.agg (#[(.string (⟨#[]⟩ : ByteArray)), (.string (⟨#[]⟩ : ByteArray))])) fun b3 =>
  C.ld .str 1 ((Addr.mk b1 0 none).add 0) fun v5 =>
  C.st 1 ((Addr.mk b3 0 none).add 0) (.string v5) <|
  C.ld .str 1 ((Addr.mk b1 0 none).add 1) fun v8 =>
  C.st 1 ((Addr.mk b3 0 none).add 1) (.string v8) <|
  C.ld .agg 2 (Addr.mk b3 0 none) fun v10 =>
  C.st 2 (Addr.mk b2 0 none) (.agg v10) <|
  C.ld .agg 2 (Addr.mk b2 0 none) fun z7 =>
  C.ret (.agg z7)
theorem laws_toEntry_eq (C : Comb) (x0 : Array Value) : fT C Tryz.prog { loop := [], join := [], anyOrder := [], pure := [] } n_laws_toEntry [(.agg x0)] = laws_toEntry C x0 := by kernel_rfl
theorem laws_toEntry_calls {R : Value → World → Prop} {w : World} (x0 : Array Value) (h : (laws_toEntry (real Tryz.prog R) x0 : World → Prop) w) :
    Calls Tryz.prog n_laws_toEntry [(.agg x0)].toArray w fun e w' => ∃ v, e = .returned v ∧ R v w' := fT_sound mixed { loop := [], join := [], anyOrder := [], pure := [] } (by rw [laws_toEntry_eq]; exact h)

/-- impl.newShop (26) -/
def impl_newShop (C : Comb) (x0 : Array Value) : C.St :=
  C.new ty_impl_Store (.agg x0) fun b1 =>
  C.ld .agg 1 (Addr.mk b1 0 none) fun v4 =>
  C.call n_impl_ValidStore [(.agg v4)] [.bool] fun r5 =>
  cond (!r5) (
    C.ret (.tuple #[(.pointer none), (.bool false)])
  ) (
    C.draw <|
    C.ld .agg 1 (Addr.mk b1 0 none) fun v7 =>
    C.ld .slice 1 ((Addr.mk b1 0 none).add 0) fun v10 =>
    C.call n_impl_Store_keys [(.agg v7)] [.slice] fun r8 =>
    C.chk [⟨3, 1, ((Addr.mk b1 0 none).add 0), .slice, v10⟩] <|
    C.call n_slices_Clone_sl_impl_Blob_impl_Blob [(.slice v10.a v10.n v10.c)] [.slice] fun r11 =>
    C.pur (Instr.build ty_impl_shop #[(0, (.slice r8.a r8.n r8.c)), (1, (.slice r11.a r11.n r11.c))]) .agg fun y12 =>
    C.new ty_impl_shop (.agg y12) fun b13 =>
    C.ret (.tuple #[(.pointer (some (Addr.mk b13 0 none))), (.bool true)])
  )
theorem impl_newShop_eq (C : Comb) (x0 : Array Value) : fT C Tryz.prog { loop := [], join := [], anyOrder := [3], pure := [] } n_impl_newShop [(.agg x0)] = impl_newShop C x0 := by kernel_rfl
theorem impl_newShop_calls {R : Value → World → Prop} {w : World} (x0 : Array Value) (h : (impl_newShop (real Tryz.prog R) x0 : World → Prop) w) :
    Calls Tryz.prog n_impl_newShop [(.agg x0)].toArray w fun e w' => ∃ v, e = .returned v ∧ R v w' := fT_sound mixed { loop := [], join := [], anyOrder := [3], pure := [] } (by rw [impl_newShop_eq]; exact h)

/-- impl.ValidEntries (27) -/
def impl_ValidEntries (C : Comb) (x0 : Sl) : C.St :=
  C.loop (TL [(.int .i64)]) (embL [(.int .i64)]) [(.int .i64 0)] fun s1 ct1 => C.any fun _ =>
  cond (decide (s1 < (x0.n : Int))) (
    C.ix x0.a x0.n 2 s1 fun p10 =>
    C.ld .agg 2 p10 fun v11 =>
    C.new ty_impl_Entry (.agg (#[(.string (⟨#[]⟩ : ByteArray)), (.string (⟨#[]⟩ : ByteArray))])) fun b4 =>
    C.st 2 (Addr.mk b4 0 none) (.agg v11) <|
    C.draw <|
    C.ld .agg 2 (Addr.mk b4 0 none) fun v12 =>
    C.call n_impl_ValidEntry [(.agg v12)] [.bool] fun r13 =>
    cond (!r13) (
      C.all [
        (C.ret (.bool false)),
        (C.ret (.bool false))]
    ) (
      cond (decide (s1 > 0)) (
        C.ix x0.a x0.n 2 (IntKind.wrap .i64 (s1 - 1)) fun p24 =>
        C.all [
          (C.ld .str 1 ((Addr.mk b4 0 none).add 0) fun v20 =>
           C.ld .str 1 (p24.add 0) fun v26 =>
           C.pur (eqB .leq ty_string (.tmp 20) (.tmp 26) (.string v20) (.string v26)) .bool fun y27 =>
           cond y27 (
             C.ret (.bool false)
           ) (
             ct1 [(.int .i64 (IntKind.wrap .i64 (s1 + 1)))]
           )),
          (C.ld .str 1 (p24.add 0) fun v26 =>
           C.ld .str 1 ((Addr.mk b4 0 none).add 0) fun v20 =>
           C.pur (eqB .leq ty_string (.tmp 20) (.tmp 26) (.string v20) (.string v26)) .bool fun y27 =>
           cond y27 (
             C.ret (.bool false)
           ) (
             ct1 [(.int .i64 (IntKind.wrap .i64 (s1 + 1)))]
           ))]
      ) (
        C.all [
          (ct1 [(.int .i64 (IntKind.wrap .i64 (s1 + 1)))]),
          (ct1 [(.int .i64 (IntKind.wrap .i64 (s1 + 1)))])]
      )
    )
  ) (
    C.ret (.bool (decide ((x0.n : Int) ≤ 64)))
  )
theorem impl_ValidEntries_eq (C : Comb) (x0 : Sl) : fT C Tryz.prog { loop := [(2, [(7, (.int .i64))])], join := [], anyOrder := [4], pure := [] } n_impl_ValidEntries [(.slice x0.a x0.n x0.c)] = impl_ValidEntries C x0 := by kernel_rfl
theorem impl_ValidEntries_calls {R : Value → World → Prop} {w : World} (x0 : Sl) (h : (impl_ValidEntries (real Tryz.prog R) x0 : World → Prop) w) :
    Calls Tryz.prog n_impl_ValidEntries [(.slice x0.a x0.n x0.c)].toArray w fun e w' => ∃ v, e = .returned v ∧ R v w' := fT_sound mixed { loop := [(2, [(7, (.int .i64))])], join := [], anyOrder := [4], pure := [] } (by rw [impl_ValidEntries_eq]; exact h)

/-- impl.allNodes (28) -/
def impl_allNodes (C : Comb) (x0 : Sl) : C.St :=
  C.call n_impl_treeOf [(.slice x0.a x0.n x0.c)] [.optr] fun r5 =>
  C.call n_ptr_impl_tree_nodes [(.pointer r5), (.func (.func n_impl_allNodes_1) #[] #[]), (.func (.func n_impl_allNodes_1) #[] #[])] [.slice] fun r8 =>
  C.ret (.slice r8.a r8.n r8.c)
theorem impl_allNodes_eq (C : Comb) (x0 : Sl) : fT C Tryz.prog { loop := [], join := [], anyOrder := [], pure := [] } n_impl_allNodes [(.slice x0.a x0.n x0.c)] = impl_allNodes C x0 := by kernel_rfl
theorem impl_allNodes_calls {R : Value → World → Prop} {w : World} (x0 : Sl) (h : (impl_allNodes (real Tryz.prog R) x0 : World → Prop) w) :
    Calls Tryz.prog n_impl_allNodes [(.slice x0.a x0.n x0.c)].toArray w fun e w' => ∃ v, e = .returned v ∧ R v w' := fT_sound mixed { loop := [], join := [], anyOrder := [], pure := [] } (by rw [impl_allNodes_eq]; exact h)

/-- (impl.MapNode).bytes (29) -/
def impl_MapNode_bytes (C : Comb) (x0 : Array Value) : C.St :=
  C.new ty_impl_MapNode (.agg x0) fun b1 =>
  C.draw <|
  C.sl (some ((Addr.mk b1 0 none).add 0)) 32 32 1 none none none fun y4 =>
  C.sl (some ((Addr.mk b1 0 none).add 32)) 32 32 1 none none none fun y6 =>
  C.ld .str 1 (((Addr.mk b1 0 none).add 64).add 0) fun v9 =>
  C.ld .str 1 (((Addr.mk b1 0 none).add 64).add 0) fun v15 =>
  C.ld .str 1 (((Addr.mk b1 0 none).add 64).add 1) fun v19 =>
  C.all [
    (C.sem (Instr.buildSlice ty_sl_uint8 1 #[(0, (.int .u8 (IntKind.wrap .u8 ((v9.size : Int)))))]) .slice fun y12 =>
     C.chk [⟨16, 1, (((Addr.mk b1 0 none).add 64).add 1), .str, v19⟩, ⟨12, 1, (((Addr.mk b1 0 none).add 64).add 0), .str, v15⟩, ⟨6, 1, (((Addr.mk b1 0 none).add 64).add 0), .str, v9⟩] <|
     C.all [
       (C.sem (convert ty_string ty_sl_uint8 (.string v15)) .slice fun y16 =>
        C.chk [⟨16, 1, (((Addr.mk b1 0 none).add 64).add 1), .str, v19⟩, ⟨6, 1, (((Addr.mk b1 0 none).add 64).add 0), .str, v9⟩] <|
        C.sem (convert ty_string ty_sl_uint8 (.string v19)) .slice fun y20 =>
        C.chk [⟨6, 1, (((Addr.mk b1 0 none).add 64).add 0), .str, v9⟩] <|
        C.sem (Instr.buildSlice ty_sl_sl_uint8 5 #[(0, (.slice y4.a y4.n y4.c)), (1, (.slice y6.a y6.n y6.c)), (2, (.slice y12.a y12.n y12.c)), (3, (.slice y16.a y16.n y16.c)), (4, (.slice y20.a y20.n y20.c))]) .slice fun y21 =>
        C.chk [⟨6, 1, (((Addr.mk b1 0 none).add 64).add 0), .str, v9⟩] <|
        C.call n_slices_Concat_sl_byte_byte [(.slice y21.a y21.n y21.c)] [.slice] fun r22 =>
        C.chk [⟨6, 1, (((Addr.mk b1 0 none).add 64).add 0), .str, v9⟩] <|
        C.ret (.slice r22.a r22.n r22.c)),
       (C.sem (convert ty_string ty_sl_uint8 (.string v19)) .slice fun y20 =>
        C.chk [⟨12, 1, (((Addr.mk b1 0 none).add 64).add 0), .str, v15⟩, ⟨6, 1, (((Addr.mk b1 0 none).add 64).add 0), .str, v9⟩] <|
        C.sem (convert ty_string ty_sl_uint8 (.string v15)) .slice fun y16 =>
        C.chk [⟨6, 1, (((Addr.mk b1 0 none).add 64).add 0), .str, v9⟩] <|
        C.sem (Instr.buildSlice ty_sl_sl_uint8 5 #[(0, (.slice y4.a y4.n y4.c)), (1, (.slice y6.a y6.n y6.c)), (2, (.slice y12.a y12.n y12.c)), (3, (.slice y16.a y16.n y16.c)), (4, (.slice y20.a y20.n y20.c))]) .slice fun y21 =>
        C.chk [⟨6, 1, (((Addr.mk b1 0 none).add 64).add 0), .str, v9⟩] <|
        C.call n_slices_Concat_sl_byte_byte [(.slice y21.a y21.n y21.c)] [.slice] fun r22 =>
        C.chk [⟨6, 1, (((Addr.mk b1 0 none).add 64).add 0), .str, v9⟩] <|
        C.ret (.slice r22.a r22.n r22.c))]),
    (C.sem (convert ty_string ty_sl_uint8 (.string v15)) .slice fun y16 =>
     C.chk [⟨16, 1, (((Addr.mk b1 0 none).add 64).add 1), .str, v19⟩, ⟨6, 1, (((Addr.mk b1 0 none).add 64).add 0), .str, v9⟩] <|
     C.all [
       (C.sem (Instr.buildSlice ty_sl_uint8 1 #[(0, (.int .u8 (IntKind.wrap .u8 ((v9.size : Int)))))]) .slice fun y12 =>
        C.chk [⟨16, 1, (((Addr.mk b1 0 none).add 64).add 1), .str, v19⟩, ⟨6, 1, (((Addr.mk b1 0 none).add 64).add 0), .str, v9⟩] <|
        C.sem (convert ty_string ty_sl_uint8 (.string v19)) .slice fun y20 =>
        C.chk [⟨6, 1, (((Addr.mk b1 0 none).add 64).add 0), .str, v9⟩] <|
        C.sem (Instr.buildSlice ty_sl_sl_uint8 5 #[(0, (.slice y4.a y4.n y4.c)), (1, (.slice y6.a y6.n y6.c)), (2, (.slice y12.a y12.n y12.c)), (3, (.slice y16.a y16.n y16.c)), (4, (.slice y20.a y20.n y20.c))]) .slice fun y21 =>
        C.chk [⟨6, 1, (((Addr.mk b1 0 none).add 64).add 0), .str, v9⟩] <|
        C.call n_slices_Concat_sl_byte_byte [(.slice y21.a y21.n y21.c)] [.slice] fun r22 =>
        C.chk [⟨6, 1, (((Addr.mk b1 0 none).add 64).add 0), .str, v9⟩] <|
        C.ret (.slice r22.a r22.n r22.c)),
       (C.sem (convert ty_string ty_sl_uint8 (.string v19)) .slice fun y20 =>
        C.chk [⟨6, 1, (((Addr.mk b1 0 none).add 64).add 0), .str, v9⟩] <|
        C.sem (Instr.buildSlice ty_sl_uint8 1 #[(0, (.int .u8 (IntKind.wrap .u8 ((v9.size : Int)))))]) .slice fun y12 =>
        C.chk [⟨6, 1, (((Addr.mk b1 0 none).add 64).add 0), .str, v9⟩] <|
        C.sem (Instr.buildSlice ty_sl_sl_uint8 5 #[(0, (.slice y4.a y4.n y4.c)), (1, (.slice y6.a y6.n y6.c)), (2, (.slice y12.a y12.n y12.c)), (3, (.slice y16.a y16.n y16.c)), (4, (.slice y20.a y20.n y20.c))]) .slice fun y21 =>
        C.chk [⟨6, 1, (((Addr.mk b1 0 none).add 64).add 0), .str, v9⟩] <|
        C.call n_slices_Concat_sl_byte_byte [(.slice y21.a y21.n y21.c)] [.slice] fun r22 =>
        C.chk [⟨6, 1, (((Addr.mk b1 0 none).add 64).add 0), .str, v9⟩] <|
        C.ret (.slice r22.a r22.n r22.c))]),
    (C.sem (convert ty_string ty_sl_uint8 (.string v19)) .slice fun y20 =>
     C.chk [⟨12, 1, (((Addr.mk b1 0 none).add 64).add 0), .str, v15⟩, ⟨6, 1, (((Addr.mk b1 0 none).add 64).add 0), .str, v9⟩] <|
     C.all [
       (C.sem (Instr.buildSlice ty_sl_uint8 1 #[(0, (.int .u8 (IntKind.wrap .u8 ((v9.size : Int)))))]) .slice fun y12 =>
        C.chk [⟨12, 1, (((Addr.mk b1 0 none).add 64).add 0), .str, v15⟩, ⟨6, 1, (((Addr.mk b1 0 none).add 64).add 0), .str, v9⟩] <|
        C.sem (convert ty_string ty_sl_uint8 (.string v15)) .slice fun y16 =>
        C.chk [⟨6, 1, (((Addr.mk b1 0 none).add 64).add 0), .str, v9⟩] <|
        C.sem (Instr.buildSlice ty_sl_sl_uint8 5 #[(0, (.slice y4.a y4.n y4.c)), (1, (.slice y6.a y6.n y6.c)), (2, (.slice y12.a y12.n y12.c)), (3, (.slice y16.a y16.n y16.c)), (4, (.slice y20.a y20.n y20.c))]) .slice fun y21 =>
        C.chk [⟨6, 1, (((Addr.mk b1 0 none).add 64).add 0), .str, v9⟩] <|
        C.call n_slices_Concat_sl_byte_byte [(.slice y21.a y21.n y21.c)] [.slice] fun r22 =>
        C.chk [⟨6, 1, (((Addr.mk b1 0 none).add 64).add 0), .str, v9⟩] <|
        C.ret (.slice r22.a r22.n r22.c)),
       (C.sem (convert ty_string ty_sl_uint8 (.string v15)) .slice fun y16 =>
        C.chk [⟨6, 1, (((Addr.mk b1 0 none).add 64).add 0), .str, v9⟩] <|
        C.sem (Instr.buildSlice ty_sl_uint8 1 #[(0, (.int .u8 (IntKind.wrap .u8 ((v9.size : Int)))))]) .slice fun y12 =>
        C.chk [⟨6, 1, (((Addr.mk b1 0 none).add 64).add 0), .str, v9⟩] <|
        C.sem (Instr.buildSlice ty_sl_sl_uint8 5 #[(0, (.slice y4.a y4.n y4.c)), (1, (.slice y6.a y6.n y6.c)), (2, (.slice y12.a y12.n y12.c)), (3, (.slice y16.a y16.n y16.c)), (4, (.slice y20.a y20.n y20.c))]) .slice fun y21 =>
        C.chk [⟨6, 1, (((Addr.mk b1 0 none).add 64).add 0), .str, v9⟩] <|
        C.call n_slices_Concat_sl_byte_byte [(.slice y21.a y21.n y21.c)] [.slice] fun r22 =>
        C.chk [⟨6, 1, (((Addr.mk b1 0 none).add 64).add 0), .str, v9⟩] <|
        C.ret (.slice r22.a r22.n r22.c))])]
theorem impl_MapNode_bytes_eq (C : Comb) (x0 : Array Value) : fT C Tryz.prog { loop := [], join := [], anyOrder := [1], pure := [] } n_impl_MapNode_bytes [(.agg x0)] = impl_MapNode_bytes C x0 := by kernel_rfl
theorem impl_MapNode_bytes_calls {R : Value → World → Prop} {w : World} (x0 : Array Value) (h : (impl_MapNode_bytes (real Tryz.prog R) x0 : World → Prop) w) :
    Calls Tryz.prog n_impl_MapNode_bytes [(.agg x0)].toArray w fun e w' => ∃ v, e = .returned v ∧ R v w' := fT_sound mixed { loop := [], join := [], anyOrder := [1], pure := [] } (by rw [impl_MapNode_bytes_eq]; exact h)

/-- (*impl.shop).putAll (30) -/
def ptr_impl_shop_putAll (C : Comb) (x0 : Addr) (x1 : Sl) : C.St :=
  C.new ty_impl_Store (.agg (#[(.slice none 0 0)])) fun b4 =>
  C.new ty_impl_Key (.agg (Array.replicate 32 (.int .u8 0))) fun b5 =>
  C.new ty_impl_Key (.agg (Array.replicate 32 (.int .u8 0))) fun b7 =>
  C.st 32 (Addr.mk b7 0 none) (.agg (Array.replicate 32 (.int .u8 0))) <|
  C.loop (TL [(.int .i64)]) (embL [(.int .i64)]) [(.int .i64 0)] fun s4 ct4 => C.any fun _ =>
  cond (decide (s4 < (x1.n : Int))) (
    C.ix x1.a x1.n 2 s4 fun p16 =>
    C.ld .agg 2 p16 fun v17 =>
    C.new ty_impl_Blob (.agg (#[(.int .u8 0), (.slice none 0 0)])) fun b10 =>
    C.st 2 (Addr.mk b10 0 none) (.agg v17) <|
    C.ld .agg 2 (Addr.mk b10 0 none) fun v20 =>
    C.call n_ptr_impl_shop_put [(.pointer (some x0)), (.agg v20)] [.agg, (.int .i64)] fun r21 =>
    C.st 32 (Addr.mk b7 0 none) (.agg r21.1) <|
    cond (r21.2 != 0) (
      C.pur (Instr.build ty_impl_Store #[]) .agg fun y26 =>
      C.st 1 (Addr.mk b4 0 none) (.agg y26) <|
      C.st 32 (Addr.mk b5 0 none) (.agg (Array.replicate 32 (.int .u8 0))) <|
      C.ld .agg 1 (Addr.mk b4 0 none) fun z11 =>
      C.ld .agg 32 (Addr.mk b5 0 none) fun z12 =>
      C.ret (.tuple #[(.agg z11), (.agg z12), (.int .i64 r21.2)])
    ) (
      ct4 [(.int .i64 (IntKind.wrap .i64 (s4 + 1)))]
    )
  ) (
    C.draw <|
    C.ld .agg 32 (Addr.mk b7 0 none) fun v32 =>
    C.call n_ptr_impl_shop_store [(.pointer (some x0))] [.agg] fun r31 =>
    C.chk [⟨2, 32, (Addr.mk b7 0 none), .agg, v32⟩] <|
    C.st 1 (Addr.mk b4 0 none) (.agg r31) <|
    C.chk [⟨2, 32, (Addr.mk b7 0 none), .agg, v32⟩] <|
    C.st 32 (Addr.mk b5 0 none) (.agg v32) <|
    C.ld .agg 1 (Addr.mk b4 0 none) fun z15 =>
    C.ld .agg 32 (Addr.mk b5 0 none) fun z16 =>
    C.ret (.tuple #[(.agg z15), (.agg z16), (.int .i64 0)])
  )
theorem ptr_impl_shop_putAll_eq (C : Comb) (x0 : Addr) (x1 : Sl) : fT C Tryz.prog { loop := [(3, [(14, (.int .i64))])], join := [], anyOrder := [9], pure := [] } n_ptr_impl_shop_putAll [(.pointer (some x0)), (.slice x1.a x1.n x1.c)] = ptr_impl_shop_putAll C x0 x1 := by kernel_rfl
theorem ptr_impl_shop_putAll_calls {R : Value → World → Prop} {w : World} (x0 : Addr) (x1 : Sl) (h : (ptr_impl_shop_putAll (real Tryz.prog R) x0 x1 : World → Prop) w) :
    Calls Tryz.prog n_ptr_impl_shop_putAll [(.pointer (some x0)), (.slice x1.a x1.n x1.c)].toArray w fun e w' => ∃ v, e = .returned v ∧ R v w' := fT_sound mixed { loop := [(3, [(14, (.int .i64))])], join := [], anyOrder := [9], pure := [] } (by rw [ptr_impl_shop_putAll_eq]; exact h)

/-- impl.treeOf (31) -/
def impl_treeOf (C : Comb) (x0 : Sl) : C.St :=
  C.sem (Instr.buildSlice ty_sl_impl_Key 0 #[]) .slice fun y6 =>
  C.loop (TL [.slice, (.int .i64)]) (embL [.slice, (.int .i64)]) [(.slice y6.a y6.n y6.c), (.int .i64 0)] fun s2 ct2 => C.any fun _ =>
  cond (decide (s2.2 < (x0.n : Int))) (
    C.ix x0.a x0.n 2 s2.2 fun p11 =>
    C.ld .agg 2 p11 fun v12 =>
    C.new ty_impl_Entry (.agg (#[(.string (⟨#[]⟩ : ByteArray)), (.string (⟨#[]⟩ : ByteArray))])) fun b5 =>
    C.st 2 (Addr.mk b5 0 none) (.agg v12) <|
    C.ld .str 1 ((Addr.mk b5 0 none).add 0) fun v15 =>
    C.sem (convert ty_string ty_sl_uint8 (.string v15)) .slice fun y16 =>
    C.call n_impl_hash [(.int .u8 4), (.slice y16.a y16.n y16.c)] [.agg] fun r17 =>
    C.sem (Instr.buildSlice ty_sl_impl_Key 1 #[(0, (.agg r17))]) .slice fun y18 =>
    C.sem (Builtin.append_ #[ty_sl_impl_Key, ty_sl_impl_Key] ty_sl_impl_Key #[(.slice s2.1.a s2.1.n s2.1.c), (.slice y18.a y18.n y18.c)]) .slice fun y19 =>
    ct2 [(.slice y19.a y19.n y19.c), (.int .i64 (IntKind.wrap .i64 (s2.2 + 1)))]
  ) (
    C.call n_impl_grow [(.slice x0.a x0.n x0.c), (.slice s2.1.a s2.1.n s2.1.c)] [.optr] fun r23 =>
    C.ret (.pointer r23)
  )
theorem impl_treeOf_eq (C : Comb) (x0 : Sl) : fT C Tryz.prog { loop := [(3, [(3, .slice), (9, (.int .i64))])], join := [], anyOrder := [], pure := [] } n_impl_treeOf [(.slice x0.a x0.n x0.c)] = impl_treeOf C x0 := by kernel_rfl
theorem impl_treeOf_calls {R : Value → World → Prop} {w : World} (x0 : Sl) (h : (impl_treeOf (real Tryz.prog R) x0 : World → Prop) w) :
    Calls Tryz.prog n_impl_treeOf [(.slice x0.a x0.n x0.c)].toArray w fun e w' => ∃ v, e = .returned v ∧ R v w' := fT_sound mixed { loop := [(3, [(3, .slice), (9, (.int .i64))])], join := [], anyOrder := [], pure := [] } (by rw [impl_treeOf_eq]; exact h)

/-- (*impl.tree).key (32) -/
def ptr_impl_tree_key (C : Comb) (x0 : Option Addr) : C.St :=
  C.new ty_impl_Key (.agg (Array.replicate 32 (.int .u8 0))) fun b2 =>
  C.pur (eqB .eql ty_ptr_impl_tree (.tmp 3) (.const (.pointer none)) (.pointer x0) (.pointer none)) .bool fun y4 =>
  cond y4 (
    C.call n_impl_EmptyMapKey [] [.agg] fun r5 =>
    C.st 32 (Addr.mk b2 0 none) (.agg r5) <|
    C.ld .agg 32 (Addr.mk b2 0 none) fun z4 =>
    C.ret (.agg z4)
  ) (
    dpT C x0 fun a5 =>
    C.ld .agg 66 (a5.add 0) fun v9 =>
    C.call n_impl_MapNode_key [(.agg v9)] [.agg] fun r10 =>
    C.st 32 (Addr.mk b2 0 none) (.agg r10) <|
    C.ld .agg 32 (Addr.mk b2 0 none) fun z8 =>
    C.ret (.agg z8)
  )
theorem ptr_impl_tree_key_eq (C : Comb) (x0 : Option Addr) : fT C Tryz.prog { loop := [], join := [], anyOrder := [], pure := [] } n_ptr_impl_tree_key [(.pointer x0)] = ptr_impl_tree_key C x0 := by kernel_rfl
theorem ptr_impl_tree_key_calls {R : Value → World → Prop} {w : World} (x0 : Option Addr) (h : (ptr_impl_tree_key (real Tryz.prog R) x0 : World → Prop) w) :
    Calls Tryz.prog n_ptr_impl_tree_key [(.pointer x0)].toArray w fun e w' => ∃ v, e = .returned v ∧ R v w' := fT_sound mixed { loop := [], join := [], anyOrder := [], pure := [] } (by rw [ptr_impl_tree_key_eq]; exact h)

/-- laws.eqBlobS (33) -/
def laws_eqBlobS (C : Comb) (x0 : Sl) (x1 : Sl) : C.St :=
  cond ((x0.n : Int) != (x1.n : Int)) (
    C.ret (.bool false)
  ) (
    C.loop (TL [(.int .i64)]) (embL [(.int .i64)]) [(.int .i64 0)] fun s1 ct1 => C.any fun _ =>
    cond (decide (s1 < (x0.n : Int))) (
      C.draw <|
      C.ix x0.a x0.n 2 s1 fun p19 =>
      C.ld .agg 2 p19 fun v20 =>
      C.ix x1.a x1.n 2 s1 fun p23 =>
      C.ld .agg 2 p23 fun v24 =>
      C.call n_laws_eqBlob [(.agg v20), (.agg v24)] [.bool] fun r25 =>
      cond (!r25) (
        C.ret (.bool false)
      ) (
        ct1 [(.int .i64 (IntKind.wrap .i64 (s1 + 1)))]
      )
    ) (
      C.ret (.bool true)
    )
  )
theorem laws_eqBlobS_eq (C : Comb) (x0 : Sl) (x1 : Sl) : fT C Tryz.prog { loop := [(4, [(5, (.int .i64))])], join := [], anyOrder := [6], pure := [] } n_laws_eqBlobS [(.slice x0.a x0.n x0.c), (.slice x1.a x1.n x1.c)] = laws_eqBlobS C x0 x1 := by kernel_rfl
theorem laws_eqBlobS_calls {R : Value → World → Prop} {w : World} (x0 : Sl) (x1 : Sl) (h : (laws_eqBlobS (real Tryz.prog R) x0 x1 : World → Prop) w) :
    Calls Tryz.prog n_laws_eqBlobS [(.slice x0.a x0.n x0.c), (.slice x1.a x1.n x1.c)].toArray w fun e w' => ∃ v, e = .returned v ∧ R v w' := fT_sound mixed { loop := [(4, [(5, (.int .i64))])], join := [], anyOrder := [6], pure := [] } (by rw [laws_eqBlobS_eq]; exact h)

/-- laws.eqEntry (34) -/
def laws_eqEntry (C : Comb) (x0 : Array Value) (x1 : Array Value) : C.St :=
  C.new ty_impl_Entry (.agg x0) fun b2 =>
  C.new ty_impl_Entry (.agg x1) fun b3 =>
  C.ld .str 1 ((Addr.mk b2 0 none).add 0) fun v6 =>
  C.ld .str 1 ((Addr.mk b3 0 none).add 0) fun v8 =>
  C.pur (eqB .neq ty_string (.tmp 6) (.tmp 8) (.string v6) (.string v8)) .bool fun y9 =>
  cond y9 (
    C.ret (.bool false)
  ) (
    C.ld .str 1 ((Addr.mk b2 0 none).add 1) fun v11 =>
    C.ld .str 1 ((Addr.mk b3 0 none).add 1) fun v13 =>
    C.pur (eqB .neq ty_string (.tmp 11) (.tmp 13) (.string v11) (.string v13)) .bool fun y14 =>
    cond y14 (
      C.ret (.bool false)
    ) (
      C.ret (.bool true)
    )
  )
theorem laws_eqEntry_eq (C : Comb) (x0 : Array Value) (x1 : Array Value) : fT C Tryz.prog { loop := [], join := [], anyOrder := [], pure := [] } n_laws_eqEntry [(.agg x0), (.agg x1)] = laws_eqEntry C x0 x1 := by kernel_rfl
theorem laws_eqEntry_calls {R : Value → World → Prop} {w : World} (x0 : Array Value) (x1 : Array Value) (h : (laws_eqEntry (real Tryz.prog R) x0 x1 : World → Prop) w) :
    Calls Tryz.prog n_laws_eqEntry [(.agg x0), (.agg x1)].toArray w fun e w' => ∃ v, e = .returned v ∧ R v w' := fT_sound mixed { loop := [], join := [], anyOrder := [], pure := [] } (by rw [laws_eqEntry_eq]; exact h)

/-- laws.markBlobS (35) -/
def laws_markBlobS (C : Comb) (x0 : Sl) (x1 : Int) : C.St :=
  C.loop (TL [(.int .i64), (.int .i64)]) (embL [(.int .i64), (.int .i64)]) [(.int .i64 x1), (.int .i64 0)] fun s1 ct1 => C.any fun _ =>
  cond (decide (s1.2 < (x0.n : Int))) (
    C.ix x0.a x0.n 2 s1.2 fun p16 =>
    C.st 1 (p16.add 0) (.int .u8 (IntKind.wrap .u8 (s1.1))) <|
    C.ix x0.a x0.n 2 s1.2 fun p22 =>
    C.ld .slice 1 (p22.add 1) fun v24 =>
    C.call n_laws_markByteS [(.slice v24.a v24.n v24.c), (.int .i64 (IntKind.wrap .i64 (s1.1 + 1)))] [(.int .i64)] fun r26 =>
    ct1 [(.int .i64 r26), (.int .i64 (IntKind.wrap .i64 (s1.2 + 1)))]
  ) (
    C.ret (.int .i64 s1.1)
  )
theorem laws_markBlobS_eq (C : Comb) (x0 : Sl) (x1 : Int) : fT C Tryz.prog { loop := [(2, [(1, (.int .i64)), (5, (.int .i64))])], join := [], anyOrder := [], pure := [] } n_laws_markBlobS [(.slice x0.a x0.n x0.c), (.int .i64 x1)] = laws_markBlobS C x0 x1 := by kernel_rfl
theorem laws_markBlobS_calls {R : Value → World → Prop} {w : World} (x0 : Sl) (x1 : Int) (h : (laws_markBlobS (real Tryz.prog R) x0 x1 : World → Prop) w) :
    Calls Tryz.prog n_laws_markBlobS [(.slice x0.a x0.n x0.c), (.int .i64 x1)].toArray w fun e w' => ∃ v, e = .returned v ∧ R v w' := fT_sound mixed { loop := [(2, [(1, (.int .i64)), (5, (.int .i64))])], join := [], anyOrder := [], pure := [] } (by rw [laws_markBlobS_eq]; exact h)

/-- laws.markText (36) -/
def laws_markText (C : Comb) (x0 : Int) : C.St :=
  cond (decide (x0 ≤ 0)) (
    C.ret (.string (⟨#[109, 48]⟩ : ByteArray))
  ) (
    C.loop (TL [(.int .i64), .str]) (embL [(.int .i64), .str]) [(.int .i64 x0), (.string (⟨#[]⟩ : ByteArray))] fun s1 ct1 => C.any fun _ =>
    cond (decide (s1.1 > 0)) (
      C.sem (Instr.buildSlice ty_sl_uint8 1 #[(0, (.int .u8 (IntKind.wrap .u8 ((IntKind.wrap .i64 (48 + (Int.tmod s1.1 10)))))))]) .slice fun y12 =>
      C.sem (convert ty_sl_uint8 ty_string (.slice y12.a y12.n y12.c)) .str fun y13 =>
      C.pur (eqB .add ty_string (.tmp 13) (.tmp 14) (.string y13) (.string s1.2)) .str fun y15 =>
      ct1 [(.int .i64 (IntKind.wrap .i64 (Int.tdiv s1.1 10))), (.string y15)]
    ) (
      C.pur (eqB .add ty_string (.const (.string (⟨#[109]⟩ : ByteArray))) (.tmp 18) (.string (⟨#[109]⟩ : ByteArray)) (.string s1.2)) .str fun y19 =>
      C.ret (.string y19)
    )
  )
theorem laws_markText_eq (C : Comb) (x0 : Int) : fT C Tryz.prog { loop := [(4, [(0, (.int .i64)), (3, .str)])], join := [], anyOrder := [], pure := [] } n_laws_markText [(.int .i64 x0)] = laws_markText C x0 := by kernel_rfl
theorem laws_markText_calls {R : Value → World → Prop} {w : World} (x0 : Int) (h : (laws_markText (real Tryz.prog R) x0 : World → Prop) w) :
    Calls Tryz.prog n_laws_markText [(.int .i64 x0)].toArray w fun e w' => ∃ v, e = .returned v ∧ R v w' := fT_sound mixed { loop := [(4, [(0, (.int .i64)), (3, .str)])], join := [], anyOrder := [], pure := [] } (by rw [laws_markText_eq]; exact h)

/-- laws.heldBlobS (37) -/
def laws_heldBlobS (C : Comb) (x0 : Sl) (x1 : Int) : C.St :=
  C.loop (TL [(.int .i64), (.int .i64)]) (embL [(.int .i64), (.int .i64)]) [(.int .i64 x1), (.int .i64 0)] fun s1 ct1 => C.any fun _ =>
  cond (decide (s1.2 < (x0.n : Int))) (
    C.ix x0.a x0.n 2 s1.2 fun p14 =>
    C.ld (.int .u8) 1 (p14.add 0) fun v16 =>
    cond (v16 != (IntKind.wrap .u8 (s1.1))) (
      C.ret (.int .i64 (-1))
    ) (
      C.ix x0.a x0.n 2 s1.2 fun p24 =>
      C.ld .slice 1 (p24.add 1) fun v26 =>
      C.call n_laws_heldByteS [(.slice v26.a v26.n v26.c), (.int .i64 (IntKind.wrap .i64 (s1.1 + 1)))] [(.int .i64)] fun r28 =>
      cond (decide (r28 < 0)) (
        C.ret (.int .i64 (-1))
      ) (
        ct1 [(.int .i64 r28), (.int .i64 (IntKind.wrap .i64 (s1.2 + 1)))]
      )
    )
  ) (
    C.ret (.int .i64 s1.1)
  )
theorem laws_heldBlobS_eq (C : Comb) (x0 : Sl) (x1 : Int) : fT C Tryz.prog { loop := [(2, [(1, (.int .i64)), (5, (.int .i64))])], join := [], anyOrder := [], pure := [] } n_laws_heldBlobS [(.slice x0.a x0.n x0.c), (.int .i64 x1)] = laws_heldBlobS C x0 x1 := by kernel_rfl
theorem laws_heldBlobS_calls {R : Value → World → Prop} {w : World} (x0 : Sl) (x1 : Int) (h : (laws_heldBlobS (real Tryz.prog R) x0 x1 : World → Prop) w) :
    Calls Tryz.prog n_laws_heldBlobS [(.slice x0.a x0.n x0.c), (.int .i64 x1)].toArray w fun e w' => ∃ v, e = .returned v ∧ R v w' := fT_sound mixed { loop := [(2, [(1, (.int .i64)), (5, (.int .i64))])], join := [], anyOrder := [], pure := [] } (by rw [laws_heldBlobS_eq]; exact h)

/-- laws.szBlob (38) -/
def laws_szBlob (C : Comb) (x0 : Array Value) (x1 : Int) : C.St :=
  C.new ty_laws_Blob (.agg x0) fun b2 =>
  C.ld .slice 1 ((Addr.mk b2 0 none).add 1) fun v6 =>
  C.call n_laws_szByteS [(.slice v6.a v6.n v6.c), (.int .i64 x1)] [(.int .i64)] fun r8 =>
  cond (decide (r8 < 0)) (
    C.ret (.int .i64 (-1))
  ) (
    C.ret (.int .i64 r8)
  )
theorem laws_szBlob_eq (C : Comb) (x0 : Array Value) (x1 : Int) : fT C Tryz.prog { loop := [], join := [], anyOrder := [], pure := [] } n_laws_szBlob [(.agg x0), (.int .i64 x1)] = laws_szBlob C x0 x1 := by kernel_rfl
theorem laws_szBlob_calls {R : Value → World → Prop} {w : World} (x0 : Array Value) (x1 : Int) (h : (laws_szBlob (real Tryz.prog R) x0 x1 : World → Prop) w) :
    Calls Tryz.prog n_laws_szBlob [(.agg x0), (.int .i64 x1)].toArray w fun e w' => ∃ v, e = .returned v ∧ R v w' := fT_sound mixed { loop := [], join := [], anyOrder := [], pure := [] } (by rw [laws_szBlob_eq]; exact h)

/-- spec.l05Blob (39) -/
def spec_l05Blob (C : Comb) (x0 : Addr) : C.St :=
  C.ld .slice 1 (x0.add 1) fun v6 =>
  C.ret (.bool (decide ((v6.n : Int) ≤ 1024)))
theorem spec_l05Blob_eq (C : Comb) (x0 : Addr) : fT C Tryz.prog { loop := [], join := [], anyOrder := [], pure := [] } n_spec_l05Blob [(.pointer (some x0))] = spec_l05Blob C x0 := by kernel_rfl
theorem spec_l05Blob_calls {R : Value → World → Prop} {w : World} (x0 : Addr) (h : (spec_l05Blob (real Tryz.prog R) x0 : World → Prop) w) :
    Calls Tryz.prog n_spec_l05Blob [(.pointer (some x0))].toArray w fun e w' => ∃ v, e = .returned v ∧ R v w' := fT_sound mixed { loop := [], join := [], anyOrder := [], pure := [] } (by rw [spec_l05Blob_eq]; exact h)

/-- spec.l05Key (40) -/
def spec_l05Key (C : Comb) (x0 : Addr) : C.St :=
  C.new ty_impl_Key (.agg (Array.replicate 32 (.int .u8 0))) fun b2 =>
  C.draw <|
  C.ld (.int .u8) 1 (x0.add 0) fun v6 =>
  C.ld .slice 1 (x0.add 1) fun v10 =>
  C.call n_spec_l01Hash [(.int .u8 v6), (.slice v10.a v10.n v10.c)] [.agg] fun r11 =>
  C.st 32 (Addr.mk b2 0 none) (.agg r11) <|
  C.ld .agg 32 (Addr.mk b2 0 none) fun z5 =>
  C.ret (.agg z5)
theorem spec_l05Key_eq (C : Comb) (x0 : Addr) : fT C Tryz.prog { loop := [], join := [], anyOrder := [1], pure := [] } n_spec_l05Key [(.pointer (some x0))] = spec_l05Key C x0 := by kernel_rfl
theorem spec_l05Key_calls {R : Value → World → Prop} {w : World} (x0 : Addr) (h : (spec_l05Key (real Tryz.prog R) x0 : World → Prop) w) :
    Calls Tryz.prog n_spec_l05Key [(.pointer (some x0))].toArray w fun e w' => ∃ v, e = .returned v ∧ R v w' := fT_sound mixed { loop := [], join := [], anyOrder := [1], pure := [] } (by rw [spec_l05Key_eq]; exact h)

/-- spec.l01Compare (41) -/
def spec_l01Compare (C : Comb) (x0 : Array Value) (x1 : Array Value) : C.St :=
  C.new ty_impl_Key (.agg x0) fun b2 =>
  C.new ty_impl_Key (.agg x1) fun b3 =>
  C.loop (TL [(.int .i64)]) (embL [(.int .i64)]) [(.int .i64 0)] fun s3 ct3 => C.any fun _ =>
  cond (decide (s3 < 32)) (
    C.draw <|
    C.ix (some (Addr.mk b2 0 none)) 32 1 s3 fun p11 =>
    C.ld (.int .u8) 1 p11 fun v12 =>
    C.ix (some (Addr.mk b3 0 none)) 32 1 s3 fun p14 =>
    C.ld (.int .u8) 1 p14 fun v15 =>
    cond (v12 != v15) (
      C.draw <|
      C.ix (some (Addr.mk b2 0 none)) 32 1 s3 fun p18 =>
      C.ld (.int .u8) 1 p18 fun v19 =>
      C.ix (some (Addr.mk b3 0 none)) 32 1 s3 fun p21 =>
      C.ld (.int .u8) 1 p21 fun v22 =>
      cond (decide (v19 < v22)) (
        C.ret (.int .i64 (-1))
      ) (
        C.ret (.int .i64 1)
      )
    ) (
      ct3 [(.int .i64 (IntKind.wrap .i64 (s3 + 1)))]
    )
  ) (
    C.ret (.int .i64 0)
  )
theorem spec_l01Compare_eq (C : Comb) (x0 : Array Value) (x1 : Array Value) : fT C Tryz.prog { loop := [(2, [(5, (.int .i64))])], join := [], anyOrder := [], pure := [] } n_spec_l01Compare [(.agg x0), (.agg x1)] = spec_l01Compare C x0 x1 := by kernel_rfl
theorem spec_l01Compare_calls {R : Value → World → Prop} {w : World} (x0 : Array Value) (x1 : Array Value) (h : (spec_l01Compare (real Tryz.prog R) x0 x1 : World → Prop) w) :
    Calls Tryz.prog n_spec_l01Compare [(.agg x0), (.agg x1)].toArray w fun e w' => ∃ v, e = .returned v ∧ R v w' := fT_sound mixed { loop := [(2, [(5, (.int .i64))])], join := [], anyOrder := [], pure := [] } (by rw [spec_l01Compare_eq]; exact h)

/-- spec.l04Entry (42) -/
def spec_l04Entry (C : Comb) (x0 : Addr) : C.St :=
  C.ld .str 1 (x0.add 0) fun v6 =>
  C.call n_spec_l04Name [(.string v6)] [.bool] fun r7 =>
  cond r7 (
    C.ld .str 1 (x0.add 1) fun v12 =>
    C.ret (.bool (decide ((v12.size : Int) ≤ 64)))
  ) (
    C.ret (.bool false)
  )
theorem spec_l04Entry_eq (C : Comb) (x0 : Addr) : fT C Tryz.prog { loop := [], join := [], anyOrder := [], pure := [] } n_spec_l04Entry [(.pointer (some x0))] = spec_l04Entry C x0 := by kernel_rfl
theorem spec_l04Entry_calls {R : Value → World → Prop} {w : World} (x0 : Addr) (h : (spec_l04Entry (real Tryz.prog R) x0 : World → Prop) w) :
    Calls Tryz.prog n_spec_l04Entry [(.pointer (some x0))].toArray w fun e w' => ∃ v, e = .returned v ∧ R v w' := fT_sound mixed { loop := [], join := [], anyOrder := [], pure := [] } (by rw [spec_l04Entry_eq]; exact h)

/-- spec.l04Empty (43) -/
def spec_l04Empty (C : Comb)  : C.St :=
  C.new ty_impl_Key (.agg (Array.replicate 32 (.int .u8 0))) fun b0 =>
  C.sem (Instr.buildSlice ty_sl_uint8 0 #[]) .slice fun y1 =>
  C.call n_spec_l01Hash [(.int .u8 5), (.slice y1.a y1.n y1.c)] [.agg] fun r2 =>
  C.st 32 (Addr.mk b0 0 none) (.agg r2) <|
  C.ld .agg 32 (Addr.mk b0 0 none) fun z4 =>
  C.ret (.agg z4)
theorem spec_l04Empty_eq (C : Comb)  : fT C Tryz.prog { loop := [], join := [], anyOrder := [], pure := [] } n_spec_l04Empty [] = spec_l04Empty C  := by kernel_rfl
theorem spec_l04Empty_calls {R : Value → World → Prop} {w : World}  (h : (spec_l04Empty (real Tryz.prog R)  : World → Prop) w) :
    Calls Tryz.prog n_spec_l04Empty [].toArray w fun e w' => ∃ v, e = .returned v ∧ R v w' := fT_sound mixed { loop := [], join := [], anyOrder := [], pure := [] } (by rw [spec_l04Empty_eq]; exact h)

/-- spec.l04Top (44) -/
def spec_l04Top (C : Comb) (x0 : Sl) : C.St :=
  C.ix x0.a x0.n 2 0 fun p8 =>
  C.ld .str 1 (p8.add 0) fun v10 =>
  C.call n_spec_l04Priority [(.string v10)] [.agg] fun r11 =>
  C.new ty_impl_Key (.agg (Array.replicate 32 (.int .u8 0))) fun b4 =>
  C.st 32 (Addr.mk b4 0 none) (.agg r11) <|
  C.loop (TL [(.int .i64), (.int .i64)]) (embL [(.int .i64), (.int .i64)]) [(.int .i64 0), (.int .i64 1)] fun s5 ct5 => C.any fun _ =>
  cond (decide (s5.2 < (x0.n : Int))) (
    C.ix x0.a x0.n 2 s5.2 fun p20 =>
    C.ld .str 1 (p20.add 0) fun v22 =>
    C.call n_spec_l04Priority [(.string v22)] [.agg] fun r23 =>
    C.new ty_impl_Key (.agg (Array.replicate 32 (.int .u8 0))) fun b6 =>
    C.st 32 (Addr.mk b6 0 none) (.agg r23) <|
    C.ld .agg 32 (Addr.mk b6 0 none) fun v24 =>
    C.ld .agg 32 (Addr.mk b4 0 none) fun v25 =>
    C.call n_spec_l01Compare [(.agg v24), (.agg v25)] [(.int .i64)] fun r26 =>
    cond (decide (r26 > 0)) (
      C.ld .agg 32 (Addr.mk b6 0 none) fun v29 =>
      C.st 32 (Addr.mk b4 0 none) (.agg v29) <|
      ct5 [(.int .i64 s5.2), (.int .i64 (IntKind.wrap .i64 (s5.2 + 1)))]
    ) (
      ct5 [(.int .i64 s5.1), (.int .i64 (IntKind.wrap .i64 (s5.2 + 1)))]
    )
  ) (
    C.ret (.int .i64 s5.1)
  )
theorem spec_l04Top_eq (C : Comb) (x0 : Sl) : fT C Tryz.prog { loop := [(4, [(3, (.int .i64)), (5, (.int .i64))])], join := [], anyOrder := [], pure := [] } n_spec_l04Top [(.slice x0.a x0.n x0.c)] = spec_l04Top C x0 := by kernel_rfl
theorem spec_l04Top_calls {R : Value → World → Prop} {w : World} (x0 : Sl) (h : (spec_l04Top (real Tryz.prog R) x0 : World → Prop) w) :
    Calls Tryz.prog n_spec_l04Top [(.slice x0.a x0.n x0.c)].toArray w fun e w' => ∃ v, e = .returned v ∧ R v w' := fT_sound mixed { loop := [(4, [(3, (.int .i64)), (5, (.int .i64))])], join := [], anyOrder := [], pure := [] } (by rw [spec_l04Top_eq]; exact h)

/-- spec.l04NodeKey (45) -/
def spec_l04NodeKey (C : Comb) (x0 : Addr) : C.St :=
  C.new ty_impl_Key (.agg (Array.replicate 32 (.int .u8 0))) fun b2 =>
  C.call n_spec_l04Bytes [(.pointer (some x0))] [.slice] fun r4 =>
  C.call n_spec_l01Hash [(.int .u8 5), (.slice r4.a r4.n r4.c)] [.agg] fun r5 =>
  C.st 32 (Addr.mk b2 0 none) (.agg r5) <|
  C.ld .agg 32 (Addr.mk b2 0 none) fun z4 =>
  C.ret (.agg z4)
theorem spec_l04NodeKey_eq (C : Comb) (x0 : Addr) : fT C Tryz.prog { loop := [], join := [], anyOrder := [], pure := [] } n_spec_l04NodeKey [(.pointer (some x0))] = spec_l04NodeKey C x0 := by kernel_rfl
theorem spec_l04NodeKey_calls {R : Value → World → Prop} {w : World} (x0 : Addr) (h : (spec_l04NodeKey (real Tryz.prog R) x0 : World → Prop) w) :
    Calls Tryz.prog n_spec_l04NodeKey [(.pointer (some x0))].toArray w fun e w' => ∃ v, e = .returned v ∧ R v w' := fT_sound mixed { loop := [], join := [], anyOrder := [], pure := [] } (by rw [spec_l04NodeKey_eq]; exact h)

/-- spec.l05SameBlob (46) -/
def spec_l05SameBlob (C : Comb) (x0 : Addr) (x1 : Addr) : C.St :=
  C.draw <|
  C.ld (.int .u8) 1 (x0.add 0) fun v8 =>
  C.ld (.int .u8) 1 (x1.add 0) fun v12 =>
  cond (v8 == v12) (
    C.all [
      (C.ld .slice 1 (x0.add 1) fun v18 =>
       C.chk [⟨7, 1, (x1.add 0), (.int .u8), v12⟩, ⟨3, 1, (x0.add 0), (.int .u8), v8⟩] <|
       C.ld .slice 1 (x1.add 1) fun v22 =>
       C.chk [⟨7, 1, (x1.add 0), (.int .u8), v12⟩, ⟨3, 1, (x0.add 0), (.int .u8), v8⟩] <|
       C.call n_spec_l01Bytes [(.slice v18.a v18.n v18.c), (.slice v22.a v22.n v22.c)] [.bool] fun r23 =>
       C.chk [⟨7, 1, (x1.add 0), (.int .u8), v12⟩, ⟨3, 1, (x0.add 0), (.int .u8), v8⟩] <|
       C.ret (.bool r23)),
      (C.ld .slice 1 (x1.add 1) fun v22 =>
       C.chk [⟨7, 1, (x1.add 0), (.int .u8), v12⟩, ⟨3, 1, (x0.add 0), (.int .u8), v8⟩] <|
       C.ld .slice 1 (x0.add 1) fun v18 =>
       C.chk [⟨7, 1, (x1.add 0), (.int .u8), v12⟩, ⟨3, 1, (x0.add 0), (.int .u8), v8⟩] <|
       C.call n_spec_l01Bytes [(.slice v18.a v18.n v18.c), (.slice v22.a v22.n v22.c)] [.bool] fun r23 =>
       C.chk [⟨7, 1, (x1.add 0), (.int .u8), v12⟩, ⟨3, 1, (x0.add 0), (.int .u8), v8⟩] <|
       C.ret (.bool r23))]
  ) (
    C.all [
      (C.chk [⟨7, 1, (x1.add 0), (.int .u8), v12⟩, ⟨3, 1, (x0.add 0), (.int .u8), v8⟩] <|
       C.chk [⟨7, 1, (x1.add 0), (.int .u8), v12⟩, ⟨3, 1, (x0.add 0), (.int .u8), v8⟩] <|
       C.chk [⟨7, 1, (x1.add 0), (.int .u8), v12⟩, ⟨3, 1, (x0.add 0), (.int .u8), v8⟩] <|
       C.ret (.bool false)),
      (C.chk [⟨7, 1, (x1.add 0), (.int .u8), v12⟩, ⟨3, 1, (x0.add 0), (.int .u8), v8⟩] <|
       C.chk [⟨7, 1, (x1.add 0), (.int .u8), v12⟩, ⟨3, 1, (x0.add 0), (.int .u8), v8⟩] <|
       C.chk [⟨7, 1, (x1.add 0), (.int .u8), v12⟩, ⟨3, 1, (x0.add 0), (.int .u8), v8⟩] <|
       C.ret (.bool false))]
  )
theorem spec_l05SameBlob_eq (C : Comb) (x0 : Addr) (x1 : Addr) : fT C Tryz.prog { loop := [], join := [], anyOrder := [1], pure := [] } n_spec_l05SameBlob [(.pointer (some x0)), (.pointer (some x1))] = spec_l05SameBlob C x0 x1 := by kernel_rfl
theorem spec_l05SameBlob_calls {R : Value → World → Prop} {w : World} (x0 : Addr) (x1 : Addr) (h : (spec_l05SameBlob (real Tryz.prog R) x0 x1 : World → Prop) w) :
    Calls Tryz.prog n_spec_l05SameBlob [(.pointer (some x0)), (.pointer (some x1))].toArray w fun e w' => ∃ v, e = .returned v ∧ R v w' := fT_sound mixed { loop := [], join := [], anyOrder := [1], pure := [] } (by rw [spec_l05SameBlob_eq]; exact h)

/-- (*spec.l05Store).store (47) -/
def ptr_spec_l05Store_store (C : Comb) (x0 : Addr) : C.St :=
  C.new ty_impl_Store (.agg (#[(.slice none 0 0)])) fun b2 =>
  C.pur (Instr.build ty_impl_Store #[]) .agg fun y5 =>
  C.new ty_impl_Store (.agg (#[(.slice none 0 0)])) fun b3 =>
  C.st 1 (Addr.mk b3 0 none) (.agg y5) <|
  C.loop (TL [(.int .i64)]) (embL [(.int .i64)]) [(.int .i64 0)] fun s4 ct4 => C.any fun _ =>
  C.ld .slice 1 (x0.add 0) fun v10 =>
  cond (decide (s4 < (v10.n : Int))) (
    C.draw <|
    C.ld .slice 1 ((Addr.mk b3 0 none).add 0) fun v16 =>
    C.ld .slice 1 (x0.add 0) fun v20 =>
    C.ix v20.a v20.n 2 s4 fun p22 =>
    C.ld .agg 2 p22 fun v23 =>
    C.call n_spec_l05Copy [(.agg v23)] [.agg] fun r24 =>
    C.chk [⟨5, 1, (x0.add 0), .slice, v20⟩, ⟨1, 1, ((Addr.mk b3 0 none).add 0), .slice, v16⟩] <|
    C.sem (Instr.buildSlice ty_sl_impl_Blob 1 #[(0, (.agg r24))]) .slice fun y25 =>
    C.chk [⟨5, 1, (x0.add 0), .slice, v20⟩, ⟨1, 1, ((Addr.mk b3 0 none).add 0), .slice, v16⟩] <|
    C.sem (Builtin.append_ #[ty_sl_impl_Blob, ty_sl_impl_Blob] ty_sl_impl_Blob #[(.slice v16.a v16.n v16.c), (.slice y25.a y25.n y25.c)]) .slice fun y26 =>
    C.chk [⟨5, 1, (x0.add 0), .slice, v20⟩] <|
    C.st 1 ((Addr.mk b3 0 none).add 0) (.slice y26.a y26.n y26.c) <|
    ct4 [(.int .i64 (IntKind.wrap .i64 (s4 + 1)))]
  ) (
    C.ld .agg 1 (Addr.mk b3 0 none) fun v28 =>
    C.st 1 (Addr.mk b2 0 none) (.agg v28) <|
    C.ld .agg 1 (Addr.mk b2 0 none) fun z14 =>
    C.ret (.agg z14)
  )
theorem ptr_spec_l05Store_store_eq (C : Comb) (x0 : Addr) : fT C Tryz.prog { loop := [(3, [(4, (.int .i64))])], join := [], anyOrder := [5], pure := [] } n_ptr_spec_l05Store_store [(.pointer (some x0))] = ptr_spec_l05Store_store C x0 := by kernel_rfl
theorem ptr_spec_l05Store_store_calls {R : Value → World → Prop} {w : World} (x0 : Addr) (h : (ptr_spec_l05Store_store (real Tryz.prog R) x0 : World → Prop) w) :
    Calls Tryz.prog n_ptr_spec_l05Store_store [(.pointer (some x0))].toArray w fun e w' => ∃ v, e = .returned v ∧ R v w' := fT_sound mixed { loop := [(3, [(4, (.int .i64))])], join := [], anyOrder := [5], pure := [] } (by rw [ptr_spec_l05Store_store_eq]; exact h)

/-- laws.toBlob (48) -/
def laws_toBlob (C : Comb) (x0 : Array Value) : C.St :=
  C.new ty_laws_Blob (.agg x0) fun b1 =>
  C.new ty_impl_Blob (.agg (#[(.int .u8 0), (.slice none 0 0)])) fun b2 =>
  C.new ty_impl_Blob (.agg (#[(.int .u8 0), (.slice none 0 0)])) fun b3 =>
  C.ld (.int .u8) 1 ((Addr.mk b1 0 none).add 0) fun v5 =>
  C.st 1 ((Addr.mk b3 0 none).add 0) (.int .u8 v5) <|
  C.ld .slice 1 ((Addr.mk b1 0 none).add 1) fun v8 =>
  C.call n_laws_toByteS [(.slice v8.a v8.n v8.c)] [.slice] fun r9 =>
  C.st 1 ((Addr.mk b3 0 none).add 1) (.slice r9.a r9.n r9.c) <|
  C.ld .agg 2 (Addr.mk b3 0 none) fun v11 =>
  C.st 2 (Addr.mk b2 0 none) (.agg v11) <|
  C.ld .agg 2 (Addr.mk b2 0 none) fun z8 =>
  C.ret (.agg z8)
theorem laws_toBlob_eq (C : Comb) (x0 : Array Value) : fT C Tryz.prog { loop := [], join := [], anyOrder := [], pure := [] } n_laws_toBlob [(.agg x0)] = laws_toBlob C x0 := by kernel_rfl
theorem laws_toBlob_calls {R : Value → World → Prop} {w : World} (x0 : Array Value) (h : (laws_toBlob (real Tryz.prog R) x0 : World → Prop) w) :
    Calls Tryz.prog n_laws_toBlob [(.agg x0)].toArray w fun e w' => ∃ v, e = .returned v ∧ R v w' := fT_sound mixed { loop := [], join := [], anyOrder := [], pure := [] } (by rw [laws_toBlob_eq]; exact h)

/-- impl.ValidStore (49) -/
def impl_ValidStore (C : Comb) (x0 : Array Value) : C.St :=
  C.new ty_impl_Store (.agg x0) fun b1 =>
  C.join (TL []) (embL []) (fun s5 => C.any fun _ =>
      C.ld .agg 1 (Addr.mk b1 0 none) fun v13 =>
      C.call n_impl_Store_keys [(.agg v13)] [.slice] fun r14 =>
      C.call n_impl_sorted [(.slice r14.a r14.n r14.c)] [.slice] fun r16 =>
      cond ((r16.n : Int) == (r14.n : Int)) (
        C.call n_slices_IsSortedFunc_sl_impl_Key_impl_Key [(.slice r14.a r14.n r14.c), (.func (.func n_impl_compareKeys) #[] #[])] [.bool] fun r23 =>
        C.ret (.bool r23)
      ) (
        C.ret (.bool false)
      )
    ) fun jt =>
  C.ld .slice 1 ((Addr.mk b1 0 none).add 0) fun v5 =>
  cond (decide ((v5.n : Int) > 128)) (
    C.ret (.bool false)
  ) (
    C.ld .slice 1 ((Addr.mk b1 0 none).add 0) fun v10 =>
    C.call n_slices_ContainsFunc_sl_impl_Blob_impl_Blob [(.slice v10.a v10.n v10.c), (.func (.func n_impl_ValidStore_1) #[] #[])] [.bool] fun r11 =>
    cond r11 (
      C.ret (.bool false)
    ) (
      jt []
    )
  )
theorem impl_ValidStore_eq (C : Comb) (x0 : Array Value) : fT C Tryz.prog { loop := [], join := [(36, [])], anyOrder := [], pure := [] } n_impl_ValidStore [(.agg x0)] = impl_ValidStore C x0 := by kernel_rfl
theorem impl_ValidStore_calls {R : Value → World → Prop} {w : World} (x0 : Array Value) (h : (impl_ValidStore (real Tryz.prog R) x0 : World → Prop) w) :
    Calls Tryz.prog n_impl_ValidStore [(.agg x0)].toArray w fun e w' => ∃ v, e = .returned v ∧ R v w' := fT_sound mixed { loop := [], join := [(36, [])], anyOrder := [], pure := [] } (by rw [impl_ValidStore_eq]; exact h)

/-- (impl.Store).keys (50) -/
def impl_Store_keys (C : Comb) (x0 : Array Value) : C.St :=
  C.new ty_impl_Store (.agg x0) fun b1 =>
  C.sem (Instr.buildSlice ty_sl_impl_Key 0 #[]) .slice fun y6 =>
  C.ld .slice 1 ((Addr.mk b1 0 none).add 0) fun v8 =>
  C.loop (TL [.slice, (.int .i64)]) (embL [.slice, (.int .i64)]) [(.slice y6.a y6.n y6.c), (.int .i64 0)] fun s4 ct4 => C.any fun _ =>
  cond (decide (s4.2 < (v8.n : Int))) (
    C.ix v8.a v8.n 2 s4.2 fun p12 =>
    C.ld .agg 2 p12 fun v13 =>
    C.new ty_impl_Blob (.agg (#[(.int .u8 0), (.slice none 0 0)])) fun b5 =>
    C.st 2 (Addr.mk b5 0 none) (.agg v13) <|
    C.ld .agg 2 (Addr.mk b5 0 none) fun v15 =>
    C.call n_impl_Blob_key [(.agg v15)] [.agg] fun r16 =>
    C.sem (Instr.buildSlice ty_sl_impl_Key 1 #[(0, (.agg r16))]) .slice fun y17 =>
    C.sem (Builtin.append_ #[ty_sl_impl_Key, ty_sl_impl_Key] ty_sl_impl_Key #[(.slice s4.1.a s4.1.n s4.1.c), (.slice y17.a y17.n y17.c)]) .slice fun y18 =>
    ct4 [(.slice y18.a y18.n y18.c), (.int .i64 (IntKind.wrap .i64 (s4.2 + 1)))]
  ) (
    C.ret (.slice s4.1.a s4.1.n s4.1.c)
  )
theorem impl_Store_keys_eq (C : Comb) (x0 : Array Value) : fT C Tryz.prog { loop := [(3, [(3, .slice), (10, (.int .i64))])], join := [], anyOrder := [], pure := [] } n_impl_Store_keys [(.agg x0)] = impl_Store_keys C x0 := by kernel_rfl
theorem impl_Store_keys_calls {R : Value → World → Prop} {w : World} (x0 : Array Value) (h : (impl_Store_keys (real Tryz.prog R) x0 : World → Prop) w) :
    Calls Tryz.prog n_impl_Store_keys [(.agg x0)].toArray w fun e w' => ∃ v, e = .returned v ∧ R v w' := fT_sound mixed { loop := [(3, [(3, .slice), (10, (.int .i64))])], join := [], anyOrder := [], pure := [] } (by rw [impl_Store_keys_eq]; exact h)

/-- slices.Clone[[]impl.Blob,impl.Blob] (51) -/
def slices_Clone_sl_impl_Blob_impl_Blob (C : Comb) (x0 : Sl) : C.St :=
  C.pur (eqB .eql ty_sl_impl_Blob (.tmp 3) (.const (.slice none 0 0)) (.slice x0.a x0.n x0.c) (.slice none 0 0)) .bool fun y4 =>
  cond y4 (
    C.ret (.slice none 0 0)
  ) (
    C.sem (Instr.buildSlice ty_sl_impl_Blob 0 #[]) .slice fun y5 =>
    C.sem (Builtin.append_ #[ty_sl_impl_Blob, ty_sl_impl_Blob] ty_sl_impl_Blob #[(.slice y5.a y5.n y5.c), (.slice x0.a x0.n x0.c)]) .slice fun y7 =>
    C.ret (.slice y7.a y7.n y7.c)
  )
theorem slices_Clone_sl_impl_Blob_impl_Blob_eq (C : Comb) (x0 : Sl) : fT C Tryz.prog { loop := [], join := [], anyOrder := [], pure := [] } n_slices_Clone_sl_impl_Blob_impl_Blob [(.slice x0.a x0.n x0.c)] = slices_Clone_sl_impl_Blob_impl_Blob C x0 := by kernel_rfl
theorem slices_Clone_sl_impl_Blob_impl_Blob_calls {R : Value → World → Prop} {w : World} (x0 : Sl) (h : (slices_Clone_sl_impl_Blob_impl_Blob (real Tryz.prog R) x0 : World → Prop) w) :
    Calls Tryz.prog n_slices_Clone_sl_impl_Blob_impl_Blob [(.slice x0.a x0.n x0.c)].toArray w fun e w' => ∃ v, e = .returned v ∧ R v w' := fT_sound mixed { loop := [], join := [], anyOrder := [], pure := [] } (by rw [slices_Clone_sl_impl_Blob_impl_Blob_eq]; exact h)

/-- impl.ValidEntry (52) -/
def impl_ValidEntry (C : Comb) (x0 : Array Value) : C.St :=
  C.new ty_impl_Entry (.agg x0) fun b1 =>
  C.ld .str 1 ((Addr.mk b1 0 none).add 0) fun v4 =>
  C.call n_impl_isName [(.string v4)] [.bool] fun r5 =>
  cond r5 (
    C.ld .str 1 ((Addr.mk b1 0 none).add 1) fun v8 =>
    C.ret (.bool (decide ((v8.size : Int) ≤ 64)))
  ) (
    C.ret (.bool false)
  )
theorem impl_ValidEntry_eq (C : Comb) (x0 : Array Value) : fT C Tryz.prog { loop := [], join := [], anyOrder := [], pure := [] } n_impl_ValidEntry [(.agg x0)] = impl_ValidEntry C x0 := by kernel_rfl
theorem impl_ValidEntry_calls {R : Value → World → Prop} {w : World} (x0 : Array Value) (h : (impl_ValidEntry (real Tryz.prog R) x0 : World → Prop) w) :
    Calls Tryz.prog n_impl_ValidEntry [(.agg x0)].toArray w fun e w' => ∃ v, e = .returned v ∧ R v w' := fT_sound mixed { loop := [], join := [], anyOrder := [], pure := [] } (by rw [impl_ValidEntry_eq]; exact h)

/-- impl.allNodes$1 (53) -/
def impl_allNodes_1 (C : Comb) (x0 : ByteArray) : C.St :=
  C.ret (.bool true)
theorem impl_allNodes_1_eq (C : Comb) (x0 : ByteArray) : fT C Tryz.prog { loop := [], join := [], anyOrder := [], pure := [] } n_impl_allNodes_1 [(.string x0)] = impl_allNodes_1 C x0 := by kernel_rfl
theorem impl_allNodes_1_calls {R : Value → World → Prop} {w : World} (x0 : ByteArray) (h : (impl_allNodes_1 (real Tryz.prog R) x0 : World → Prop) w) :
    Calls Tryz.prog n_impl_allNodes_1 [(.string x0)].toArray w fun e w' => ∃ v, e = .returned v ∧ R v w' := fT_sound mixed { loop := [], join := [], anyOrder := [], pure := [] } (by rw [impl_allNodes_1_eq]; exact h)

/-- (*impl.tree).nodes (54) -/
def ptr_impl_tree_nodes (C : Comb) (x0 : Option Addr) (x1 : Value) (x2 : Value) : C.St :=
  C.pur (eqB .eql ty_ptr_impl_tree (.tmp 8) (.const (.pointer none)) (.pointer x0) (.pointer none)) .bool fun y9 =>
  cond y9 (
    C.ret (.slice none 0 0)
  ) (
    dpT C x0 fun a2 =>
    C.ld .agg 66 (a2.add 0) fun v13 =>
    C.sem (Instr.buildSlice ty_sl_impl_MapNode 1 #[(0, (.agg v13))]) .slice fun y14 =>
    C.join (TL [.slice]) (embL [.slice]) (fun s12 => C.any fun _ =>
        dpT C x0 fun a13 =>
        C.ld .str 1 (((a13.add 0).add 64).add 0) fun v38 =>
        C.callV x2 [(.string v38)] [.bool] fun r39 =>
        cond r39 (
          dpT C x0 fun a16 =>
          C.ld .optr 1 (a16.add 67) fun v44 =>
          C.call n_ptr_impl_tree_nodes [(.pointer v44), x1, x2] [.slice] fun r47 =>
          C.sem (Builtin.append_ #[ty_sl_impl_MapNode, ty_sl_impl_MapNode] ty_sl_impl_MapNode #[(.slice s12.a s12.n s12.c), (.slice r47.a r47.n r47.c)]) .slice fun y48 =>
          C.ret (.slice y48.a y48.n y48.c)
        ) (
          C.ret (.slice s12.a s12.n s12.c)
        )
      ) fun jt =>
    dpT C x0 fun a5 =>
    C.ld .str 1 (((a5.add 0).add 64).add 0) fun v21 =>
    C.callV x1 [(.string v21)] [.bool] fun r22 =>
    cond r22 (
      dpT C x0 fun a8 =>
      C.ld .optr 1 (a8.add 66) fun v27 =>
      C.call n_ptr_impl_tree_nodes [(.pointer v27), x1, x2] [.slice] fun r30 =>
      C.sem (Builtin.append_ #[ty_sl_impl_MapNode, ty_sl_impl_MapNode] ty_sl_impl_MapNode #[(.slice y14.a y14.n y14.c), (.slice r30.a r30.n r30.c)]) .slice fun y31 =>
      jt [(.slice y31.a y31.n y31.c)]
    ) (
      jt [(.slice y14.a y14.n y14.c)]
    )
  )
theorem ptr_impl_tree_nodes_eq (C : Comb) (x0 : Option Addr) (x1 : Value) (x2 : Value) : fT C Tryz.prog { loop := [], join := [(66, [(7, .slice)])], anyOrder := [], pure := [] } n_ptr_impl_tree_nodes [(.pointer x0), x1, x2] = ptr_impl_tree_nodes C x0 x1 x2 := by kernel_rfl
theorem ptr_impl_tree_nodes_calls {R : Value → World → Prop} {w : World} (x0 : Option Addr) (x1 : Value) (x2 : Value) (h : (ptr_impl_tree_nodes (real Tryz.prog R) x0 x1 x2 : World → Prop) w) :
    Calls Tryz.prog n_ptr_impl_tree_nodes [(.pointer x0), x1, x2].toArray w fun e w' => ∃ v, e = .returned v ∧ R v w' := fT_sound mixed { loop := [], join := [(66, [(7, .slice)])], anyOrder := [], pure := [] } (by rw [ptr_impl_tree_nodes_eq]; exact h)

/-- slices.Concat[[]byte,byte] (55) -/
def slices_Concat_sl_byte_byte (C : Comb) (x0 : Sl) : C.St :=
  C.loop (TL [(.int .i64), (.int .i64)]) (embL [(.int .i64), (.int .i64)]) [(.int .i64 0), (.int .i64 0)] fun s1 ct1 => C.any fun _ =>
  cond (decide (s1.2 < (x0.n : Int))) (
    C.ix x0.a x0.n 1 s1.2 fun p13 =>
    C.ld .slice 1 p13 fun v14 =>
    cond (decide ((IntKind.wrap .i64 (s1.1 + (v14.n : Int))) < 0)) (
      C.pur (Instr.makeInterface ty_string (.string (⟨#[108, 101, 110, 32, 111, 117, 116, 32, 111, 102, 32, 114, 97, 110, 103, 101]⟩ : ByteArray))) .val fun y21 =>
      C.fail
    ) (
      ct1 [(.int .i64 (IntKind.wrap .i64 (s1.1 + (v14.n : Int)))), (.int .i64 (IntKind.wrap .i64 (s1.2 + 1)))]
    )
  ) (
    C.call n_slices_Grow_sl_byte_byte [(.slice none 0 0), (.int .i64 s1.1)] [.slice] fun r24 =>
    C.loop (TL [.slice, (.int .i64)]) (embL [.slice, (.int .i64)]) [(.slice r24.a r24.n r24.c), (.int .i64 0)] fun s6 ct6 => C.any fun _ =>
    cond (decide (s6.2 < (x0.n : Int))) (
      C.ix x0.a x0.n 1 s6.2 fun p29 =>
      C.ld .slice 1 p29 fun v30 =>
      C.sem (Builtin.append_ #[ty_sl_uint8, ty_sl_uint8] ty_sl_uint8 #[(.slice s6.1.a s6.1.n s6.1.c), (.slice v30.a v30.n v30.c)]) .slice fun y33 =>
      ct6 [(.slice y33.a y33.n y33.c), (.int .i64 (IntKind.wrap .i64 (s6.2 + 1)))]
    ) (
      C.ret (.slice s6.1.a s6.1.n s6.1.c)
    )
  )
theorem slices_Concat_sl_byte_byte_eq (C : Comb) (x0 : Sl) : fT C Tryz.prog { loop := [(3, [(3, (.int .i64)), (11, (.int .i64))]), (11, [(6, .slice), (27, (.int .i64))])], join := [], anyOrder := [], pure := [] } n_slices_Concat_sl_byte_byte [(.slice x0.a x0.n x0.c)] = slices_Concat_sl_byte_byte C x0 := by kernel_rfl
theorem slices_Concat_sl_byte_byte_calls {R : Value → World → Prop} {w : World} (x0 : Sl) (h : (slices_Concat_sl_byte_byte (real Tryz.prog R) x0 : World → Prop) w) :
    Calls Tryz.prog n_slices_Concat_sl_byte_byte [(.slice x0.a x0.n x0.c)].toArray w fun e w' => ∃ v, e = .returned v ∧ R v w' := fT_sound mixed { loop := [(3, [(3, (.int .i64)), (11, (.int .i64))]), (11, [(6, .slice), (27, (.int .i64))])], join := [], anyOrder := [], pure := [] } (by rw [slices_Concat_sl_byte_byte_eq]; exact h)

/-- (*impl.shop).put (56) -/
def ptr_impl_shop_put (C : Comb) (x0 : Addr) (x1 : Array Value) : C.St :=
  C.new ty_impl_Blob (.agg x1) fun b3 =>
  C.new ty_impl_Key (.agg (Array.replicate 32 (.int .u8 0))) fun b4 =>
  C.ld .agg 2 (Addr.mk b3 0 none) fun v9 =>
  C.call n_impl_Blob_key [(.agg v9)] [.agg] fun r10 =>
  C.new ty_impl_Key (.agg (Array.replicate 32 (.int .u8 0))) fun b6 =>
  C.st 32 (Addr.mk b6 0 none) (.agg r10) <|
  C.ld .agg 32 (Addr.mk b6 0 none) fun v13 =>
  C.call n_ptr_impl_shop_find [(.pointer (some x0)), (.agg v13)] [(.int .i64), .bool] fun r14 =>
  C.join (TL [.bool]) (embL [.bool]) (fun s21 => C.any fun _ =>
      cond s21 (
        C.st 32 (Addr.mk b4 0 none) (.agg (Array.replicate 32 (.int .u8 0))) <|
        C.ld .agg 32 (Addr.mk b4 0 none) fun z22 =>
        C.ret (.tuple #[(.agg z22), (.int .i64 8)])
      ) (
        cond r14.2 (
          C.ld .agg 32 (Addr.mk b6 0 none) fun v34 =>
          C.st 32 (Addr.mk b4 0 none) (.agg v34) <|
          C.ld .agg 32 (Addr.mk b4 0 none) fun z24 =>
          C.ret (.tuple #[(.agg z24), (.int .i64 0)])
        ) (
          C.ld .slice 1 (x0.add 0) fun v39 =>
          cond ((v39.n : Int) == 128) (
            C.st 32 (Addr.mk b4 0 none) (.agg (Array.replicate 32 (.int .u8 0))) <|
            C.ld .agg 32 (Addr.mk b4 0 none) fun z26 =>
            C.ret (.tuple #[(.agg z26), (.int .i64 3)])
          ) (
            C.draw <|
            C.ld .slice 1 (x0.add 0) fun v48 =>
            C.ld .agg 32 (Addr.mk b6 0 none) fun v50 =>
            C.ld .slice 1 (x0.add 1) fun v56 =>
            C.ld .agg 2 (Addr.mk b3 0 none) fun v58 =>
            C.all [
              (C.sem (Instr.buildSlice ty_sl_impl_Key 1 #[(0, (.agg v50))]) .slice fun y51 =>
               C.chk [⟨15, 2, (Addr.mk b3 0 none), .agg, v58⟩, ⟨13, 1, (x0.add 1), .slice, v56⟩, ⟨5, 1, (x0.add 0), .slice, v48⟩] <|
               C.all [
                 (C.call n_slices_Insert_sl_impl_Key_impl_Key [(.slice v48.a v48.n v48.c), (.int .i64 r14.1), (.slice y51.a y51.n y51.c)] [.slice] fun r52 =>
                  C.chk [⟨15, 2, (Addr.mk b3 0 none), .agg, v58⟩, ⟨13, 1, (x0.add 1), .slice, v56⟩] <|
                  C.sem (Instr.buildSlice ty_sl_impl_Blob 1 #[(0, (.agg v58))]) .slice fun y59 =>
                  C.chk [⟨13, 1, (x0.add 1), .slice, v56⟩] <|
                  C.call n_slices_Insert_sl_impl_Blob_impl_Blob [(.slice v56.a v56.n v56.c), (.int .i64 r14.1), (.slice y59.a y59.n y59.c)] [.slice] fun r60 =>
                  C.st 1 (x0.add 0) (.slice r52.a r52.n r52.c) <|
                  C.st 1 (x0.add 1) (.slice r60.a r60.n r60.c) <|
                  C.ld .agg 32 (Addr.mk b6 0 none) fun v65 =>
                  C.st 32 (Addr.mk b4 0 none) (.agg v65) <|
                  C.ld .agg 32 (Addr.mk b4 0 none) fun z36 =>
                  C.ret (.tuple #[(.agg z36), (.int .i64 0)])),
                 (C.sem (Instr.buildSlice ty_sl_impl_Blob 1 #[(0, (.agg v58))]) .slice fun y59 =>
                  C.chk [⟨13, 1, (x0.add 1), .slice, v56⟩, ⟨5, 1, (x0.add 0), .slice, v48⟩] <|
                  C.call n_slices_Insert_sl_impl_Key_impl_Key [(.slice v48.a v48.n v48.c), (.int .i64 r14.1), (.slice y51.a y51.n y51.c)] [.slice] fun r52 =>
                  C.chk [⟨13, 1, (x0.add 1), .slice, v56⟩] <|
                  C.call n_slices_Insert_sl_impl_Blob_impl_Blob [(.slice v56.a v56.n v56.c), (.int .i64 r14.1), (.slice y59.a y59.n y59.c)] [.slice] fun r60 =>
                  C.st 1 (x0.add 0) (.slice r52.a r52.n r52.c) <|
                  C.st 1 (x0.add 1) (.slice r60.a r60.n r60.c) <|
                  C.ld .agg 32 (Addr.mk b6 0 none) fun v65 =>
                  C.st 32 (Addr.mk b4 0 none) (.agg v65) <|
                  C.ld .agg 32 (Addr.mk b4 0 none) fun z41 =>
                  C.ret (.tuple #[(.agg z41), (.int .i64 0)]))]),
              (C.sem (Instr.buildSlice ty_sl_impl_Blob 1 #[(0, (.agg v58))]) .slice fun y59 =>
               C.chk [⟨13, 1, (x0.add 1), .slice, v56⟩, ⟨7, 32, (Addr.mk b6 0 none), .agg, v50⟩, ⟨5, 1, (x0.add 0), .slice, v48⟩] <|
               C.sem (Instr.buildSlice ty_sl_impl_Key 1 #[(0, (.agg v50))]) .slice fun y51 =>
               C.chk [⟨13, 1, (x0.add 1), .slice, v56⟩, ⟨5, 1, (x0.add 0), .slice, v48⟩] <|
               C.call n_slices_Insert_sl_impl_Key_impl_Key [(.slice v48.a v48.n v48.c), (.int .i64 r14.1), (.slice y51.a y51.n y51.c)] [.slice] fun r52 =>
               C.chk [⟨13, 1, (x0.add 1), .slice, v56⟩] <|
               C.call n_slices_Insert_sl_impl_Blob_impl_Blob [(.slice v56.a v56.n v56.c), (.int .i64 r14.1), (.slice y59.a y59.n y59.c)] [.slice] fun r60 =>
               C.st 1 (x0.add 0) (.slice r52.a r52.n r52.c) <|
               C.st 1 (x0.add 1) (.slice r60.a r60.n r60.c) <|
               C.ld .agg 32 (Addr.mk b6 0 none) fun v65 =>
               C.st 32 (Addr.mk b4 0 none) (.agg v65) <|
               C.ld .agg 32 (Addr.mk b4 0 none) fun z47 =>
               C.ret (.tuple #[(.agg z47), (.int .i64 0)]))]
          )
        )
      )
    ) fun jt =>
  C.draw <|
  cond r14.2 (
    C.all [
      (C.ld .slice 1 (x0.add 1) fun v23 =>
       C.ix v23.a v23.n 2 r14.1 fun p25 =>
       C.all [
         (C.ld .agg 2 p25 fun v26 =>
          C.ld .agg 2 (Addr.mk b3 0 none) fun v27 =>
          C.call n_impl_SameBlob [(.agg v26), (.agg v27)] [.bool] fun r28 =>
          jt [(.bool (!r28))]),
         (C.ld .agg 2 (Addr.mk b3 0 none) fun v27 =>
          C.ld .agg 2 p25 fun v26 =>
          C.call n_impl_SameBlob [(.agg v26), (.agg v27)] [.bool] fun r28 =>
          jt [(.bool (!r28))])]),
      (C.ld .agg 2 (Addr.mk b3 0 none) fun v27 =>
       C.ld .slice 1 (x0.add 1) fun v23 =>
       C.ix v23.a v23.n 2 r14.1 fun p25 =>
       C.ld .agg 2 p25 fun v26 =>
       C.call n_impl_SameBlob [(.agg v26), (.agg v27)] [.bool] fun r28 =>
       jt [(.bool (!r28))])]
  ) (
    C.all [
      (C.all [
         (jt [(.bool false)]),
         (jt [(.bool false)])]),
      (jt [(.bool false)])]
  )
theorem ptr_impl_shop_put_eq (C : Comb) (x0 : Addr) (x1 : Array Value) : fT C Tryz.prog { loop := [], join := [(10, [(17, .bool)])], anyOrder := [3, 9], pure := [] } n_ptr_impl_shop_put [(.pointer (some x0)), (.agg x1)] = ptr_impl_shop_put C x0 x1 := by kernel_rfl
theorem ptr_impl_shop_put_calls {R : Value → World → Prop} {w : World} (x0 : Addr) (x1 : Array Value) (h : (ptr_impl_shop_put (real Tryz.prog R) x0 x1 : World → Prop) w) :
    Calls Tryz.prog n_ptr_impl_shop_put [(.pointer (some x0)), (.agg x1)].toArray w fun e w' => ∃ v, e = .returned v ∧ R v w' := fT_sound mixed { loop := [], join := [(10, [(17, .bool)])], anyOrder := [3, 9], pure := [] } (by rw [ptr_impl_shop_put_eq]; exact h)

/-- (*impl.shop).store (57) -/
def ptr_impl_shop_store (C : Comb) (x0 : Addr) : C.St :=
  C.new ty_impl_Store (.agg (#[(.slice none 0 0)])) fun b2 =>
  C.pur (Instr.build ty_impl_Store #[]) .agg fun y6 =>
  C.new ty_impl_Store (.agg (#[(.slice none 0 0)])) fun b3 =>
  C.st 1 (Addr.mk b3 0 none) (.agg y6) <|
  C.ld .slice 1 (x0.add 1) fun v10 =>
  C.loop (TL [(.int .i64)]) (embL [(.int .i64)]) [(.int .i64 0)] fun s5 ct5 => C.any fun _ =>
  cond (decide (s5 < (v10.n : Int))) (
    C.ix v10.a v10.n 2 s5 fun p14 =>
    C.ld .agg 2 p14 fun v15 =>
    C.new ty_impl_Blob (.agg (#[(.int .u8 0), (.slice none 0 0)])) fun b5 =>
    C.st 2 (Addr.mk b5 0 none) (.agg v15) <|
    C.draw <|
    C.ld .slice 1 ((Addr.mk b3 0 none).add 0) fun v17 =>
    C.ld .agg 2 (Addr.mk b5 0 none) fun v18 =>
    C.call n_impl_Blob_copied [(.agg v18)] [.agg] fun r19 =>
    C.chk [⟨1, 1, ((Addr.mk b3 0 none).add 0), .slice, v17⟩] <|
    C.sem (Instr.buildSlice ty_sl_impl_Blob 1 #[(0, (.agg r19))]) .slice fun y20 =>
    C.chk [⟨1, 1, ((Addr.mk b3 0 none).add 0), .slice, v17⟩] <|
    C.sem (Builtin.append_ #[ty_sl_impl_Blob, ty_sl_impl_Blob] ty_sl_impl_Blob #[(.slice v17.a v17.n v17.c), (.slice y20.a y20.n y20.c)]) .slice fun y21 =>
    C.st 1 ((Addr.mk b3 0 none).add 0) (.slice y21.a y21.n y21.c) <|
    ct5 [(.int .i64 (IntKind.wrap .i64 (s5 + 1)))]
  ) (
    C.ld .agg 1 (Addr.mk b3 0 none) fun v24 =>
    C.st 1 (Addr.mk b2 0 none) (.agg v24) <|
    C.ld .agg 1 (Addr.mk b2 0 none) fun z15 =>
    C.ret (.agg z15)
  )
theorem ptr_impl_shop_store_eq (C : Comb) (x0 : Addr) : fT C Tryz.prog { loop := [(3, [(12, (.int .i64))])], join := [], anyOrder := [5], pure := [] } n_ptr_impl_shop_store [(.pointer (some x0))] = ptr_impl_shop_store C x0 := by kernel_rfl
theorem ptr_impl_shop_store_calls {R : Value → World → Prop} {w : World} (x0 : Addr) (h : (ptr_impl_shop_store (real Tryz.prog R) x0 : World → Prop) w) :
    Calls Tryz.prog n_ptr_impl_shop_store [(.pointer (some x0))].toArray w fun e w' => ∃ v, e = .returned v ∧ R v w' := fT_sound mixed { loop := [(3, [(12, (.int .i64))])], join := [], anyOrder := [5], pure := [] } (by rw [ptr_impl_shop_store_eq]; exact h)

/-- impl.hash (58) -/
def impl_hash (C : Comb) (x0 : Int) (x1 : Sl) : C.St :=
  C.new ty_impl_Key (.agg (Array.replicate 32 (.int .u8 0))) fun b4 =>
  C.call n_impl_size_byte [(.slice x1.a x1.n x1.c)] [(.int .i64)] fun r10 =>
  C.call n_impl_padding [(.int .i64 r10)] [.slice] fun r11 =>
  C.sem (Instr.buildSlice ty_sl_sl_uint8 2 #[(0, (.slice x1.a x1.n x1.c)), (1, (.slice r11.a r11.n r11.c))]) .slice fun y12 =>
  C.call n_slices_Concat_sl_byte_byte [(.slice y12.a y12.n y12.c)] [.slice] fun r13 =>
  C.call n_impl_blocks [(.slice r13.a r13.n r13.c)] [.slice, .slice] fun r14 =>
  C.call n_impl_StartState [(.int .u8 x0)] [.agg] fun r18 =>
  C.call n_impl_mixed [(.agg r18), (.slice r14.1.a r14.1.n r14.1.c)] [.agg] fun r20 =>
  C.call n_impl_keyOf [(.agg r20)] [.agg] fun r21 =>
  C.st 32 (Addr.mk b4 0 none) (.agg r21) <|
  C.ld .agg 32 (Addr.mk b4 0 none) fun z10 =>
  C.ret (.agg z10)
theorem impl_hash_eq (C : Comb) (x0 : Int) (x1 : Sl) : fT C Tryz.prog { loop := [], join := [], anyOrder := [], pure := [] } n_impl_hash [(.int .u8 x0), (.slice x1.a x1.n x1.c)] = impl_hash C x0 x1 := by kernel_rfl
theorem impl_hash_calls {R : Value → World → Prop} {w : World} (x0 : Int) (x1 : Sl) (h : (impl_hash (real Tryz.prog R) x0 x1 : World → Prop) w) :
    Calls Tryz.prog n_impl_hash [(.int .u8 x0), (.slice x1.a x1.n x1.c)].toArray w fun e w' => ∃ v, e = .returned v ∧ R v w' := fT_sound mixed { loop := [], join := [], anyOrder := [], pure := [] } (by rw [impl_hash_eq]; exact h)

/-- impl.grow (59) -/
def impl_grow (C : Comb) (x0 : Sl) (x1 : Sl) : C.St :=
  cond ((x0.n : Int) == 0) (
    C.ret (.pointer none)
  ) (
    C.loop (TL [(.int .i64), (.int .i64)]) (embL [(.int .i64), (.int .i64)]) [(.int .i64 0), (.int .i64 0)] fun s1 ct1 => C.any fun _ =>
    cond (decide (s1.2 < (x1.n : Int))) (
      C.ix x1.a x1.n 32 s1.2 fun p17 =>
      C.ld .agg 32 p17 fun v18 =>
      C.new ty_impl_Key (.agg (Array.replicate 32 (.int .u8 0))) fun b7 =>
      C.st 32 (Addr.mk b7 0 none) (.agg v18) <|
      C.draw <|
      C.ld .agg 32 (Addr.mk b7 0 none) fun v19 =>
      C.ix x1.a x1.n 32 s1.1 fun p22 =>
      C.ld .agg 32 p22 fun v23 =>
      C.call n_impl_compareKeys [(.agg v19), (.agg v23)] [(.int .i64)] fun r24 =>
      cond (decide (r24 > 0)) (
        ct1 [(.int .i64 s1.2), (.int .i64 (IntKind.wrap .i64 (s1.2 + 1)))]
      ) (
        ct1 [(.int .i64 s1.1), (.int .i64 (IntKind.wrap .i64 (s1.2 + 1)))]
      )
    ) (
      C.join (TL [.ptr]) (embL [.ptr]) (fun s17 => C.any fun _ =>
          C.draw <|
          C.ld .optr 1 (s17.add 66) fun v50 =>
          C.ld .optr 1 (s17.add 67) fun v55 =>
          C.ix x0.a x0.n 2 s1.1 fun p59 =>
          C.ld .agg 2 p59 fun v60 =>
          C.call n_ptr_impl_tree_key [(.pointer v50)] [.agg] fun r51 =>
          C.chk [⟨14, 2, p59, .agg, v60⟩, ⟨9, 1, (s17.add 67), .optr, v55⟩] <|
          C.call n_ptr_impl_tree_key [(.pointer v55)] [.agg] fun r56 =>
          C.chk [⟨14, 2, p59, .agg, v60⟩] <|
          C.pur (Instr.build ty_impl_MapNode #[(0, (.agg r51)), (1, (.agg r56)), (2, (.agg v60))]) .agg fun y61 =>
          C.st 66 (s17.add 0) (.agg y61) <|
          C.ret (.pointer (some s17))
        ) fun jt =>
      C.draw <|
      C.sl x0.a x0.n x0.c 2 none (some s1.1) none fun y30 =>
      C.sl x1.a x1.n x1.c 32 none (some s1.1) none fun y33 =>
      C.sl x0.a x0.n x0.c 2 (some (IntKind.wrap .i64 (s1.1 + 1))) none none fun y38 =>
      C.sl x1.a x1.n x1.c 32 (some (IntKind.wrap .i64 (s1.1 + 1))) none none fun y42 =>
      C.call n_impl_grow [(.slice y30.a y30.n y30.c), (.slice y33.a y33.n y33.c)] [.optr] fun r34 =>
      C.call n_impl_grow [(.slice y38.a y38.n y38.c), (.slice y42.a y42.n y42.c)] [.optr] fun r43 =>
      C.pur (Instr.build ty_impl_tree #[(1, (.pointer r34)), (2, (.pointer r43))]) .agg fun y44 =>
      C.new ty_impl_tree (.agg y44) fun b45 =>
      jt [(.pointer (some (Addr.mk b45 0 none)))]
    )
  )
theorem impl_grow_eq (C : Comb) (x0 : Sl) (x1 : Sl) : fT C Tryz.prog { loop := [(5, [(5, (.int .i64)), (14, (.int .i64))])], join := [(31, [(8, .ptr)])], anyOrder := [7, 10, 11], pure := [] } n_impl_grow [(.slice x0.a x0.n x0.c), (.slice x1.a x1.n x1.c)] = impl_grow C x0 x1 := by kernel_rfl
theorem impl_grow_calls {R : Value → World → Prop} {w : World} (x0 : Sl) (x1 : Sl) (h : (impl_grow (real Tryz.prog R) x0 x1 : World → Prop) w) :
    Calls Tryz.prog n_impl_grow [(.slice x0.a x0.n x0.c), (.slice x1.a x1.n x1.c)].toArray w fun e w' => ∃ v, e = .returned v ∧ R v w' := fT_sound mixed { loop := [(5, [(5, (.int .i64)), (14, (.int .i64))])], join := [(31, [(8, .ptr)])], anyOrder := [7, 10, 11], pure := [] } (by rw [impl_grow_eq]; exact h)

/-- impl.EmptyMapKey (60) -/
def impl_EmptyMapKey (C : Comb)  : C.St :=
  C.new ty_impl_Key (.agg (Array.replicate 32 (.int .u8 0))) fun b0 =>
  C.call n_impl_hash [(.int .u8 5), (.slice none 0 0)] [.agg] fun r1 =>
  C.st 32 (Addr.mk b0 0 none) (.agg r1) <|
  C.ld .agg 32 (Addr.mk b0 0 none) fun z3 =>
  C.ret (.agg z3)
theorem impl_EmptyMapKey_eq (C : Comb)  : fT C Tryz.prog { loop := [], join := [], anyOrder := [], pure := [] } n_impl_EmptyMapKey [] = impl_EmptyMapKey C  := by kernel_rfl
theorem impl_EmptyMapKey_calls {R : Value → World → Prop} {w : World}  (h : (impl_EmptyMapKey (real Tryz.prog R)  : World → Prop) w) :
    Calls Tryz.prog n_impl_EmptyMapKey [].toArray w fun e w' => ∃ v, e = .returned v ∧ R v w' := fT_sound mixed { loop := [], join := [], anyOrder := [], pure := [] } (by rw [impl_EmptyMapKey_eq]; exact h)

/-- (impl.MapNode).key (61) -/
def impl_MapNode_key (C : Comb) (x0 : Array Value) : C.St :=
  C.new ty_impl_MapNode (.agg x0) fun b1 =>
  C.new ty_impl_Key (.agg (Array.replicate 32 (.int .u8 0))) fun b2 =>
  C.ld .agg 66 (Addr.mk b1 0 none) fun v3 =>
  C.call n_impl_MapNode_bytes [(.agg v3)] [.slice] fun r4 =>
  C.call n_impl_hash [(.int .u8 5), (.slice r4.a r4.n r4.c)] [.agg] fun r5 =>
  C.st 32 (Addr.mk b2 0 none) (.agg r5) <|
  C.ld .agg 32 (Addr.mk b2 0 none) fun z6 =>
  C.ret (.agg z6)
theorem impl_MapNode_key_eq (C : Comb) (x0 : Array Value) : fT C Tryz.prog { loop := [], join := [], anyOrder := [], pure := [] } n_impl_MapNode_key [(.agg x0)] = impl_MapNode_key C x0 := by kernel_rfl
theorem impl_MapNode_key_calls {R : Value → World → Prop} {w : World} (x0 : Array Value) (h : (impl_MapNode_key (real Tryz.prog R) x0 : World → Prop) w) :
    Calls Tryz.prog n_impl_MapNode_key [(.agg x0)].toArray w fun e w' => ∃ v, e = .returned v ∧ R v w' := fT_sound mixed { loop := [], join := [], anyOrder := [], pure := [] } (by rw [impl_MapNode_key_eq]; exact h)

/-- laws.eqBlob (62) -/
def laws_eqBlob (C : Comb) (x0 : Array Value) (x1 : Array Value) : C.St :=
  C.new ty_impl_Blob (.agg x0) fun b2 =>
  C.new ty_impl_Blob (.agg x1) fun b3 =>
  C.ld (.int .u8) 1 ((Addr.mk b2 0 none).add 0) fun v6 =>
  C.ld (.int .u8) 1 ((Addr.mk b3 0 none).add 0) fun v8 =>
  cond (v6 != v8) (
    C.ret (.bool false)
  ) (
    C.ld .slice 1 ((Addr.mk b2 0 none).add 1) fun v11 =>
    C.ld .slice 1 ((Addr.mk b3 0 none).add 1) fun v13 =>
    C.call n_laws_eqByteS [(.slice v11.a v11.n v11.c), (.slice v13.a v13.n v13.c)] [.bool] fun r14 =>
    cond (!r14) (
      C.ret (.bool false)
    ) (
      C.ret (.bool true)
    )
  )
theorem laws_eqBlob_eq (C : Comb) (x0 : Array Value) (x1 : Array Value) : fT C Tryz.prog { loop := [], join := [], anyOrder := [], pure := [] } n_laws_eqBlob [(.agg x0), (.agg x1)] = laws_eqBlob C x0 x1 := by kernel_rfl
theorem laws_eqBlob_calls {R : Value → World → Prop} {w : World} (x0 : Array Value) (x1 : Array Value) (h : (laws_eqBlob (real Tryz.prog R) x0 x1 : World → Prop) w) :
    Calls Tryz.prog n_laws_eqBlob [(.agg x0), (.agg x1)].toArray w fun e w' => ∃ v, e = .returned v ∧ R v w' := fT_sound mixed { loop := [], join := [], anyOrder := [], pure := [] } (by rw [laws_eqBlob_eq]; exact h)

/-- laws.markByteS (63) -/
def laws_markByteS (C : Comb) (x0 : Sl) (x1 : Int) : C.St :=
  C.loop (TL [(.int .i64), (.int .i64)]) (embL [(.int .i64), (.int .i64)]) [(.int .i64 x1), (.int .i64 0)] fun s1 ct1 => C.any fun _ =>
  cond (decide (s1.2 < (x0.n : Int))) (
    C.ix x0.a x0.n 1 s1.2 fun p16 =>
    C.st 1 p16 (.int .u8 (IntKind.wrap .u8 (s1.1))) <|
    ct1 [(.int .i64 (IntKind.wrap .i64 (s1.1 + 1))), (.int .i64 (IntKind.wrap .i64 (s1.2 + 1)))]
  ) (
    C.ret (.int .i64 s1.1)
  )
theorem laws_markByteS_eq (C : Comb) (x0 : Sl) (x1 : Int) : fT C Tryz.prog { loop := [(2, [(1, (.int .i64)), (5, (.int .i64))])], join := [], anyOrder := [], pure := [] } n_laws_markByteS [(.slice x0.a x0.n x0.c), (.int .i64 x1)] = laws_markByteS C x0 x1 := by kernel_rfl
theorem laws_markByteS_calls {R : Value → World → Prop} {w : World} (x0 : Sl) (x1 : Int) (h : (laws_markByteS (real Tryz.prog R) x0 x1 : World → Prop) w) :
    Calls Tryz.prog n_laws_markByteS [(.slice x0.a x0.n x0.c), (.int .i64 x1)].toArray w fun e w' => ∃ v, e = .returned v ∧ R v w' := fT_sound mixed { loop := [(2, [(1, (.int .i64)), (5, (.int .i64))])], join := [], anyOrder := [], pure := [] } (by rw [laws_markByteS_eq]; exact h)

/-- laws.heldByteS (64) -/
def laws_heldByteS (C : Comb) (x0 : Sl) (x1 : Int) : C.St :=
  C.loop (TL [(.int .i64), (.int .i64)]) (embL [(.int .i64), (.int .i64)]) [(.int .i64 x1), (.int .i64 0)] fun s1 ct1 => C.any fun _ =>
  cond (decide (s1.2 < (x0.n : Int))) (
    C.ix x0.a x0.n 1 s1.2 fun p14 =>
    C.ld (.int .u8) 1 p14 fun v15 =>
    cond (v15 != (IntKind.wrap .u8 (s1.1))) (
      C.ret (.int .i64 (-1))
    ) (
      ct1 [(.int .i64 (IntKind.wrap .i64 (s1.1 + 1))), (.int .i64 (IntKind.wrap .i64 (s1.2 + 1)))]
    )
  ) (
    C.ret (.int .i64 s1.1)
  )
theorem laws_heldByteS_eq (C : Comb) (x0 : Sl) (x1 : Int) : fT C Tryz.prog { loop := [(2, [(1, (.int .i64)), (5, (.int .i64))])], join := [], anyOrder := [], pure := [] } n_laws_heldByteS [(.slice x0.a x0.n x0.c), (.int .i64 x1)] = laws_heldByteS C x0 x1 := by kernel_rfl
theorem laws_heldByteS_calls {R : Value → World → Prop} {w : World} (x0 : Sl) (x1 : Int) (h : (laws_heldByteS (real Tryz.prog R) x0 x1 : World → Prop) w) :
    Calls Tryz.prog n_laws_heldByteS [(.slice x0.a x0.n x0.c), (.int .i64 x1)].toArray w fun e w' => ∃ v, e = .returned v ∧ R v w' := fT_sound mixed { loop := [(2, [(1, (.int .i64)), (5, (.int .i64))])], join := [], anyOrder := [], pure := [] } (by rw [laws_heldByteS_eq]; exact h)

/-- laws.szByteS (65) -/
def laws_szByteS (C : Comb) (x0 : Sl) (x1 : Int) : C.St :=
  cond (decide ((IntKind.wrap .i64 (x1 - (x0.n : Int))) < 0)) (
    C.ret (.int .i64 (-1))
  ) (
    C.ret (.int .i64 (IntKind.wrap .i64 (x1 - (x0.n : Int))))
  )
theorem laws_szByteS_eq (C : Comb) (x0 : Sl) (x1 : Int) : fT C Tryz.prog { loop := [], join := [], anyOrder := [], pure := [] } n_laws_szByteS [(.slice x0.a x0.n x0.c), (.int .i64 x1)] = laws_szByteS C x0 x1 := by kernel_rfl
theorem laws_szByteS_calls {R : Value → World → Prop} {w : World} (x0 : Sl) (x1 : Int) (h : (laws_szByteS (real Tryz.prog R) x0 x1 : World → Prop) w) :
    Calls Tryz.prog n_laws_szByteS [(.slice x0.a x0.n x0.c), (.int .i64 x1)].toArray w fun e w' => ∃ v, e = .returned v ∧ R v w' := fT_sound mixed { loop := [], join := [], anyOrder := [], pure := [] } (by rw [laws_szByteS_eq]; exact h)

/-- spec.l01Hash (66) -/
def spec_l01Hash (C : Comb) (x0 : Int) (x1 : Sl) : C.St :=
  C.new ty_impl_Key (.agg (Array.replicate 32 (.int .u8 0))) fun b4 =>
  C.call n_spec_l01Start [(.int .u8 x0)] [.agg] fun r6 =>
  C.call n_spec_l01End [(.agg r6), (.slice x1.a x1.n x1.c), (.int .i64 (x1.n : Int))] [.agg] fun r10 =>
  C.st 32 (Addr.mk b4 0 none) (.agg r10) <|
  C.ld .agg 32 (Addr.mk b4 0 none) fun z4 =>
  C.ret (.agg z4)
theorem spec_l01Hash_eq (C : Comb) (x0 : Int) (x1 : Sl) : fT C Tryz.prog { loop := [], join := [], anyOrder := [], pure := [] } n_spec_l01Hash [(.int .u8 x0), (.slice x1.a x1.n x1.c)] = spec_l01Hash C x0 x1 := by kernel_rfl
theorem spec_l01Hash_calls {R : Value → World → Prop} {w : World} (x0 : Int) (x1 : Sl) (h : (spec_l01Hash (real Tryz.prog R) x0 x1 : World → Prop) w) :
    Calls Tryz.prog n_spec_l01Hash [(.int .u8 x0), (.slice x1.a x1.n x1.c)].toArray w fun e w' => ∃ v, e = .returned v ∧ R v w' := fT_sound mixed { loop := [], join := [], anyOrder := [], pure := [] } (by rw [spec_l01Hash_eq]; exact h)

/-- spec.l04Name (67) -/
def spec_l04Name (C : Comb) (x0 : ByteArray) : C.St :=
  C.call n_spec_l00In [(.int .i64 (x0.size : Int)), (.int .i64 1), (.int .i64 24)] [.bool] fun r5 =>
  C.ret (.bool r5)
theorem spec_l04Name_eq (C : Comb) (x0 : ByteArray) : fT C Tryz.prog { loop := [], join := [], anyOrder := [], pure := [] } n_spec_l04Name [(.string x0)] = spec_l04Name C x0 := by kernel_rfl
theorem spec_l04Name_calls {R : Value → World → Prop} {w : World} (x0 : ByteArray) (h : (spec_l04Name (real Tryz.prog R) x0 : World → Prop) w) :
    Calls Tryz.prog n_spec_l04Name [(.string x0)].toArray w fun e w' => ∃ v, e = .returned v ∧ R v w' := fT_sound mixed { loop := [], join := [], anyOrder := [], pure := [] } (by rw [spec_l04Name_eq]; exact h)

/-- spec.l04Priority (68) -/
def spec_l04Priority (C : Comb) (x0 : ByteArray) : C.St :=
  C.new ty_impl_Key (.agg (Array.replicate 32 (.int .u8 0))) fun b2 =>
  C.sem (convert ty_string ty_sl_uint8 (.string x0)) .slice fun y4 =>
  C.call n_spec_l01Hash [(.int .u8 4), (.slice y4.a y4.n y4.c)] [.agg] fun r5 =>
  C.st 32 (Addr.mk b2 0 none) (.agg r5) <|
  C.ld .agg 32 (Addr.mk b2 0 none) fun z4 =>
  C.ret (.agg z4)
theorem spec_l04Priority_eq (C : Comb) (x0 : ByteArray) : fT C Tryz.prog { loop := [], join := [], anyOrder := [], pure := [] } n_spec_l04Priority [(.string x0)] = spec_l04Priority C x0 := by kernel_rfl
theorem spec_l04Priority_calls {R : Value → World → Prop} {w : World} (x0 : ByteArray) (h : (spec_l04Priority (real Tryz.prog R) x0 : World → Prop) w) :
    Calls Tryz.prog n_spec_l04Priority [(.string x0)].toArray w fun e w' => ∃ v, e = .returned v ∧ R v w' := fT_sound mixed { loop := [], join := [], anyOrder := [], pure := [] } (by rw [spec_l04Priority_eq]; exact h)

/-- spec.l01Bytes (69) -/
def spec_l01Bytes (C : Comb) (x0 : Sl) (x1 : Sl) : C.St :=
  cond ((x0.n : Int) != (x1.n : Int)) (
    C.ret (.bool false)
  ) (
    C.loop (TL [(.int .i64)]) (embL [(.int .i64)]) [(.int .i64 0)] fun s1 ct1 => C.any fun _ =>
    cond (decide (s1 < (x0.n : Int))) (
      C.draw <|
      C.ix x0.a x0.n 1 s1 fun p19 =>
      C.ld (.int .u8) 1 p19 fun v20 =>
      C.ix x1.a x1.n 1 s1 fun p23 =>
      C.ld (.int .u8) 1 p23 fun v24 =>
      cond (v20 != v24) (
        C.ret (.bool false)
      ) (
        ct1 [(.int .i64 (IntKind.wrap .i64 (s1 + 1)))]
      )
    ) (
      C.ret (.bool true)
    )
  )
theorem spec_l01Bytes_eq (C : Comb) (x0 : Sl) (x1 : Sl) : fT C Tryz.prog { loop := [(4, [(5, (.int .i64))])], join := [], anyOrder := [], pure := [] } n_spec_l01Bytes [(.slice x0.a x0.n x0.c), (.slice x1.a x1.n x1.c)] = spec_l01Bytes C x0 x1 := by kernel_rfl
theorem spec_l01Bytes_calls {R : Value → World → Prop} {w : World} (x0 : Sl) (x1 : Sl) (h : (spec_l01Bytes (real Tryz.prog R) x0 x1 : World → Prop) w) :
    Calls Tryz.prog n_spec_l01Bytes [(.slice x0.a x0.n x0.c), (.slice x1.a x1.n x1.c)].toArray w fun e w' => ∃ v, e = .returned v ∧ R v w' := fT_sound mixed { loop := [(4, [(5, (.int .i64))])], join := [], anyOrder := [], pure := [] } (by rw [spec_l01Bytes_eq]; exact h)

/-- spec.l05Copy (70) -/
def spec_l05Copy (C : Comb) (x0 : Array Value) : C.St :=
  C.new ty_impl_Blob (.agg x0) fun b1 =>
  C.new ty_impl_Blob (.agg (#[(.int .u8 0), (.slice none 0 0)])) fun b2 =>
  C.draw <|
  C.ld (.int .u8) 1 ((Addr.mk b1 0 none).add 0) fun v4 =>
  C.ld .slice 1 ((Addr.mk b1 0 none).add 1) fun v7 =>
  C.sem (Instr.buildSlice ty_sl_uint8 0 #[]) .slice fun y5 =>
  C.chk [⟨4, 1, ((Addr.mk b1 0 none).add 1), .slice, v7⟩, ⟨1, 1, ((Addr.mk b1 0 none).add 0), (.int .u8), v4⟩] <|
  C.sem (Builtin.append_ #[ty_sl_uint8, ty_sl_uint8] ty_sl_uint8 #[(.slice y5.a y5.n y5.c), (.slice v7.a v7.n v7.c)]) .slice fun y8 =>
  C.chk [⟨1, 1, ((Addr.mk b1 0 none).add 0), (.int .u8), v4⟩] <|
  C.pur (Instr.build ty_impl_Blob #[(0, (.int .u8 v4)), (1, (.slice y8.a y8.n y8.c))]) .agg fun y9 =>
  C.st 2 (Addr.mk b2 0 none) (.agg y9) <|
  C.ld .agg 2 (Addr.mk b2 0 none) fun z8 =>
  C.ret (.agg z8)
theorem spec_l05Copy_eq (C : Comb) (x0 : Array Value) : fT C Tryz.prog { loop := [], join := [], anyOrder := [1], pure := [] } n_spec_l05Copy [(.agg x0)] = spec_l05Copy C x0 := by kernel_rfl
theorem spec_l05Copy_calls {R : Value → World → Prop} {w : World} (x0 : Array Value) (h : (spec_l05Copy (real Tryz.prog R) x0 : World → Prop) w) :
    Calls Tryz.prog n_spec_l05Copy [(.agg x0)].toArray w fun e w' => ∃ v, e = .returned v ∧ R v w' := fT_sound mixed { loop := [], join := [], anyOrder := [1], pure := [] } (by rw [spec_l05Copy_eq]; exact h)

/-- laws.toByteS (71) -/
def laws_toByteS (C : Comb) (x0 : Sl) : C.St :=
  C.sem (Instr.makeSlice ty_sl_uint8 (.int .i64 (x0.n : Int)) (.int .i64 (x0.n : Int))) .slice fun y7 =>
  C.loop (TL [(.int .i64)]) (embL [(.int .i64)]) [(.int .i64 0)] fun s2 ct2 => C.any fun _ =>
  cond (decide (s2 < (x0.n : Int))) (
    C.ix x0.a x0.n 1 s2 fun p18 =>
    C.ld (.int .u8) 1 p18 fun v19 =>
    C.ix y7.a y7.n 1 s2 fun p20 =>
    C.st 1 p20 (.int .u8 v19) <|
    ct2 [(.int .i64 (IntKind.wrap .i64 (s2 + 1)))]
  ) (
    C.ret (.slice y7.a y7.n y7.c)
  )
theorem laws_toByteS_eq (C : Comb) (x0 : Sl) : fT C Tryz.prog { loop := [(3, [(4, (.int .i64))])], join := [], anyOrder := [], pure := [] } n_laws_toByteS [(.slice x0.a x0.n x0.c)] = laws_toByteS C x0 := by kernel_rfl
theorem laws_toByteS_calls {R : Value → World → Prop} {w : World} (x0 : Sl) (h : (laws_toByteS (real Tryz.prog R) x0 : World → Prop) w) :
    Calls Tryz.prog n_laws_toByteS [(.slice x0.a x0.n x0.c)].toArray w fun e w' => ∃ v, e = .returned v ∧ R v w' := fT_sound mixed { loop := [(3, [(4, (.int .i64))])], join := [], anyOrder := [], pure := [] } (by rw [laws_toByteS_eq]; exact h)

/-- slices.ContainsFunc[[]impl.Blob,impl.Blob] (72) -/
def slices_ContainsFunc_sl_impl_Blob_impl_Blob (C : Comb) (x0 : Sl) (x1 : Value) : C.St :=
  C.call n_slices_IndexFunc_sl_impl_Blob_impl_Blob [(.slice x0.a x0.n x0.c), x1] [(.int .i64)] fun r7 =>
  C.ret (.bool (decide (r7 ≥ 0)))
theorem slices_ContainsFunc_sl_impl_Blob_impl_Blob_eq (C : Comb) (x0 : Sl) (x1 : Value) : fT C Tryz.prog { loop := [], join := [], anyOrder := [], pure := [] } n_slices_ContainsFunc_sl_impl_Blob_impl_Blob [(.slice x0.a x0.n x0.c), x1] = slices_ContainsFunc_sl_impl_Blob_impl_Blob C x0 x1 := by kernel_rfl
theorem slices_ContainsFunc_sl_impl_Blob_impl_Blob_calls {R : Value → World → Prop} {w : World} (x0 : Sl) (x1 : Value) (h : (slices_ContainsFunc_sl_impl_Blob_impl_Blob (real Tryz.prog R) x0 x1 : World → Prop) w) :
    Calls Tryz.prog n_slices_ContainsFunc_sl_impl_Blob_impl_Blob [(.slice x0.a x0.n x0.c), x1].toArray w fun e w' => ∃ v, e = .returned v ∧ R v w' := fT_sound mixed { loop := [], join := [], anyOrder := [], pure := [] } (by rw [slices_ContainsFunc_sl_impl_Blob_impl_Blob_eq]; exact h)

/-- impl.ValidStore$1 (73) -/
def impl_ValidStore_1 (C : Comb) (x0 : Array Value) : C.St :=
  C.new ty_impl_Blob (.agg x0) fun b1 =>
  C.ld .agg 2 (Addr.mk b1 0 none) fun v3 =>
  C.call n_impl_ValidBlob [(.agg v3)] [.bool] fun r4 =>
  C.ret (.bool (!r4))
theorem impl_ValidStore_1_eq (C : Comb) (x0 : Array Value) : fT C Tryz.prog { loop := [], join := [], anyOrder := [], pure := [] } n_impl_ValidStore_1 [(.agg x0)] = impl_ValidStore_1 C x0 := by kernel_rfl
theorem impl_ValidStore_1_calls {R : Value → World → Prop} {w : World} (x0 : Array Value) (h : (impl_ValidStore_1 (real Tryz.prog R) x0 : World → Prop) w) :
    Calls Tryz.prog n_impl_ValidStore_1 [(.agg x0)].toArray w fun e w' => ∃ v, e = .returned v ∧ R v w' := fT_sound mixed { loop := [], join := [], anyOrder := [], pure := [] } (by rw [impl_ValidStore_1_eq]; exact h)

/-- impl.ValidBlob (74) -/
def impl_ValidBlob (C : Comb) (x0 : Array Value) : C.St :=
  C.new ty_impl_Blob (.agg x0) fun b1 =>
  C.ld .slice 1 ((Addr.mk b1 0 none).add 1) fun v4 =>
  C.ret (.bool (decide ((v4.n : Int) ≤ 1024)))
theorem impl_ValidBlob_eq (C : Comb) (x0 : Array Value) : fT C Tryz.prog { loop := [], join := [], anyOrder := [], pure := [] } n_impl_ValidBlob [(.agg x0)] = impl_ValidBlob C x0 := by kernel_rfl
theorem impl_ValidBlob_calls {R : Value → World → Prop} {w : World} (x0 : Array Value) (h : (impl_ValidBlob (real Tryz.prog R) x0 : World → Prop) w) :
    Calls Tryz.prog n_impl_ValidBlob [(.agg x0)].toArray w fun e w' => ∃ v, e = .returned v ∧ R v w' := fT_sound mixed { loop := [], join := [], anyOrder := [], pure := [] } (by rw [impl_ValidBlob_eq]; exact h)

/-- impl.sorted (75) -/
def impl_sorted (C : Comb) (x0 : Sl) : C.St :=
  C.call n_slices_Clone_sl_impl_Key_impl_Key [(.slice x0.a x0.n x0.c)] [.slice] fun r5 =>
  C.call n_slices_SortFunc_sl_impl_Key_impl_Key [(.slice r5.a r5.n r5.c), (.func (.func n_impl_compareKeys) #[] #[])] [] fun r7 =>
  C.call n_slices_Compact_sl_impl_Key_impl_Key [(.slice r5.a r5.n r5.c)] [.slice] fun r9 =>
  C.ret (.slice r9.a r9.n r9.c)
theorem impl_sorted_eq (C : Comb) (x0 : Sl) : fT C Tryz.prog { loop := [], join := [], anyOrder := [], pure := [] } n_impl_sorted [(.slice x0.a x0.n x0.c)] = impl_sorted C x0 := by kernel_rfl
theorem impl_sorted_calls {R : Value → World → Prop} {w : World} (x0 : Sl) (h : (impl_sorted (real Tryz.prog R) x0 : World → Prop) w) :
    Calls Tryz.prog n_impl_sorted [(.slice x0.a x0.n x0.c)].toArray w fun e w' => ∃ v, e = .returned v ∧ R v w' := fT_sound mixed { loop := [], join := [], anyOrder := [], pure := [] } (by rw [impl_sorted_eq]; exact h)

/-- slices.IsSortedFunc[[]impl.Key,impl.Key] (76) -/
def slices_IsSortedFunc_sl_impl_Key_impl_Key (C : Comb) (x0 : Sl) (x1 : Value) : C.St :=
  C.loop (TL [(.int .i64)]) (embL [(.int .i64)]) [(.int .i64 (IntKind.wrap .i64 ((x0.n : Int) - 1)))] fun s1 ct1 => C.any fun _ =>
  cond (decide (s1 > 0)) (
    C.draw <|
    C.ix x0.a x0.n 32 s1 fun p16 =>
    C.ld .agg 32 p16 fun v17 =>
    C.ix x0.a x0.n 32 (IntKind.wrap .i64 (s1 - 1)) fun p21 =>
    C.ld .agg 32 p21 fun v22 =>
    C.callV x1 [(.agg v17), (.agg v22)] [(.int .i64)] fun r23 =>
    cond (decide (r23 < 0)) (
      C.ret (.bool false)
    ) (
      ct1 [(.int .i64 (IntKind.wrap .i64 (s1 - 1)))]
    )
  ) (
    C.ret (.bool true)
  )
theorem slices_IsSortedFunc_sl_impl_Key_impl_Key_eq (C : Comb) (x0 : Sl) (x1 : Value) : fT C Tryz.prog { loop := [(2, [(5, (.int .i64))])], join := [], anyOrder := [4], pure := [] } n_slices_IsSortedFunc_sl_impl_Key_impl_Key [(.slice x0.a x0.n x0.c), x1] = slices_IsSortedFunc_sl_impl_Key_impl_Key C x0 x1 := by kernel_rfl
theorem slices_IsSortedFunc_sl_impl_Key_impl_Key_calls {R : Value → World → Prop} {w : World} (x0 : Sl) (x1 : Value) (h : (slices_IsSortedFunc_sl_impl_Key_impl_Key (real Tryz.prog R) x0 x1 : World → Prop) w) :
    Calls Tryz.prog n_slices_IsSortedFunc_sl_impl_Key_impl_Key [(.slice x0.a x0.n x0.c), x1].toArray w fun e w' => ∃ v, e = .returned v ∧ R v w' := fT_sound mixed { loop := [(2, [(5, (.int .i64))])], join := [], anyOrder := [4], pure := [] } (by rw [slices_IsSortedFunc_sl_impl_Key_impl_Key_eq]; exact h)

/-- impl.compareKeys (77) -/
def impl_compareKeys (C : Comb) (x0 : Array Value) (x1 : Array Value) : C.St :=
  C.new ty_impl_Key (.agg x0) fun b2 =>
  C.new ty_impl_Key (.agg x1) fun b3 =>
  C.draw <|
  C.sl (some (Addr.mk b2 0 none)) 32 32 1 none none none fun y5 =>
  C.sl (some (Addr.mk b3 0 none)) 32 32 1 none none none fun y6 =>
  C.callQ n_slices_Compare_sl_byte_byte [(.slice y5.a y5.n y5.c), (.slice y6.a y6.n y6.c)] [(.int .i64)] fun r7 =>
  C.ret (.int .i64 r7)
theorem impl_compareKeys_eq (C : Comb) (x0 : Array Value) (x1 : Array Value) : fT C Tryz.prog { loop := [], join := [], anyOrder := [], pure := [] } n_impl_compareKeys [(.agg x0), (.agg x1)] = impl_compareKeys C x0 x1 := by kernel_rfl
theorem impl_compareKeys_calls {R : Value → World → Prop} {w : World} (x0 : Array Value) (x1 : Array Value) (h : (impl_compareKeys (real Tryz.prog R) x0 x1 : World → Prop) w) :
    Calls Tryz.prog n_impl_compareKeys [(.agg x0), (.agg x1)].toArray w fun e w' => ∃ v, e = .returned v ∧ R v w' := fT_sound mixed { loop := [], join := [], anyOrder := [], pure := [] } (by rw [impl_compareKeys_eq]; exact h)

/-- (impl.Blob).key (78) -/
def impl_Blob_key (C : Comb) (x0 : Array Value) : C.St :=
  C.new ty_impl_Blob (.agg x0) fun b1 =>
  C.new ty_impl_Key (.agg (Array.replicate 32 (.int .u8 0))) fun b2 =>
  C.ld (.int .u8) 1 ((Addr.mk b1 0 none).add 0) fun v4 =>
  C.ld .slice 1 ((Addr.mk b1 0 none).add 1) fun v6 =>
  C.call n_impl_hash [(.int .u8 v4), (.slice v6.a v6.n v6.c)] [.agg] fun r7 =>
  C.st 32 (Addr.mk b2 0 none) (.agg r7) <|
  C.ld .agg 32 (Addr.mk b2 0 none) fun z6 =>
  C.ret (.agg z6)
theorem impl_Blob_key_eq (C : Comb) (x0 : Array Value) : fT C Tryz.prog { loop := [], join := [], anyOrder := [], pure := [] } n_impl_Blob_key [(.agg x0)] = impl_Blob_key C x0 := by kernel_rfl
theorem impl_Blob_key_calls {R : Value → World → Prop} {w : World} (x0 : Array Value) (h : (impl_Blob_key (real Tryz.prog R) x0 : World → Prop) w) :
    Calls Tryz.prog n_impl_Blob_key [(.agg x0)].toArray w fun e w' => ∃ v, e = .returned v ∧ R v w' := fT_sound mixed { loop := [], join := [], anyOrder := [], pure := [] } (by rw [impl_Blob_key_eq]; exact h)

/-- impl.isName (79) -/
def impl_isName (C : Comb) (x0 : ByteArray) : C.St :=
  C.call n_impl_within [(.int .i64 (x0.size : Int)), (.int .i64 1), (.int .i64 24)] [.bool] fun r5 =>
  C.ret (.bool r5)
theorem impl_isName_eq (C : Comb) (x0 : ByteArray) : fT C Tryz.prog { loop := [], join := [], anyOrder := [], pure := [] } n_impl_isName [(.string x0)] = impl_isName C x0 := by kernel_rfl
theorem impl_isName_calls {R : Value → World → Prop} {w : World} (x0 : ByteArray) (h : (impl_isName (real Tryz.prog R) x0 : World → Prop) w) :
    Calls Tryz.prog n_impl_isName [(.string x0)].toArray w fun e w' => ∃ v, e = .returned v ∧ R v w' := fT_sound mixed { loop := [], join := [], anyOrder := [], pure := [] } (by rw [impl_isName_eq]; exact h)

/-- slices.Grow[[]byte,byte] (80) -/
def slices_Grow_sl_byte_byte (C : Comb) (x0 : Sl) (x1 : Int) : C.St :=
  C.join (TL []) (embL []) (fun s2 => C.any fun _ =>
      cond (decide ((IntKind.wrap .i64 (x1 - (IntKind.wrap .i64 ((x0.c : Int) - (x0.n : Int))))) > 0)) (
        C.sl x0.a x0.n x0.c 1 none (some (x0.c : Int)) none fun y20 =>
        C.sem (Builtin.append_ #[ty_sl_uint8, ty_int] ty_sl_uint8 #[(.slice y20.a y20.n y20.c), (.int .i64 (IntKind.wrap .i64 (x1 - (IntKind.wrap .i64 ((x0.c : Int) - (x0.n : Int))))))]) .slice fun y22 =>
        C.sl y22.a y22.n y22.c 1 none (some (x0.n : Int)) none fun y25 =>
        C.ret (.slice y25.a y25.n y25.c)
      ) (
        C.ret (.slice x0.a x0.n x0.c)
      )
    ) fun jt =>
  cond (decide (x1 < 0)) (
    C.pur (Instr.makeInterface ty_string (.string (⟨#[99, 97, 110, 110, 111, 116, 32, 98, 101, 32, 110, 101, 103, 97, 116, 105, 118, 101]⟩ : ByteArray))) .val fun y7 =>
    C.fail
  ) (
    jt []
  )
theorem slices_Grow_sl_byte_byte_eq (C : Comb) (x0 : Sl) (x1 : Int) : fT C Tryz.prog { loop := [], join := [(18, [])], anyOrder := [], pure := [] } n_slices_Grow_sl_byte_byte [(.slice x0.a x0.n x0.c), (.int .i64 x1)] = slices_Grow_sl_byte_byte C x0 x1 := by kernel_rfl
theorem slices_Grow_sl_byte_byte_calls {R : Value → World → Prop} {w : World} (x0 : Sl) (x1 : Int) (h : (slices_Grow_sl_byte_byte (real Tryz.prog R) x0 x1 : World → Prop) w) :
    Calls Tryz.prog n_slices_Grow_sl_byte_byte [(.slice x0.a x0.n x0.c), (.int .i64 x1)].toArray w fun e w' => ∃ v, e = .returned v ∧ R v w' := fT_sound mixed { loop := [], join := [(18, [])], anyOrder := [], pure := [] } (by rw [slices_Grow_sl_byte_byte_eq]; exact h)

/-- (*impl.shop).find (81) -/
def ptr_impl_shop_find (C : Comb) (x0 : Addr) (x1 : Array Value) : C.St :=
  C.new ty_impl_Key (.agg x1) fun b3 =>
  C.draw <|
  C.ld .slice 1 (x0.add 0) fun v9 =>
  C.ld .agg 32 (Addr.mk b3 0 none) fun v10 =>
  C.call n_slices_BinarySearchFunc_sl_impl_Key_impl_Key_impl_Key [(.slice v9.a v9.n v9.c), (.agg v10), (.func (.func n_impl_compareKeys) #[] #[])] [(.int .i64), .bool] fun r11 =>
  C.ret (.tuple #[(.int .i64 r11.1), (.bool r11.2)])
theorem ptr_impl_shop_find_eq (C : Comb) (x0 : Addr) (x1 : Array Value) : fT C Tryz.prog { loop := [], join := [], anyOrder := [1], pure := [] } n_ptr_impl_shop_find [(.pointer (some x0)), (.agg x1)] = ptr_impl_shop_find C x0 x1 := by kernel_rfl
theorem ptr_impl_shop_find_calls {R : Value → World → Prop} {w : World} (x0 : Addr) (x1 : Array Value) (h : (ptr_impl_shop_find (real Tryz.prog R) x0 x1 : World → Prop) w) :
    Calls Tryz.prog n_ptr_impl_shop_find [(.pointer (some x0)), (.agg x1)].toArray w fun e w' => ∃ v, e = .returned v ∧ R v w' := fT_sound mixed { loop := [], join := [], anyOrder := [1], pure := [] } (by rw [ptr_impl_shop_find_eq]; exact h)

/-- impl.SameBlob (82) -/
def impl_SameBlob (C : Comb) (x0 : Array Value) (x1 : Array Value) : C.St :=
  C.new ty_impl_Blob (.agg x0) fun b2 =>
  C.new ty_impl_Blob (.agg x1) fun b3 =>
  C.ld (.int .u8) 1 ((Addr.mk b2 0 none).add 0) fun v6 =>
  C.ld (.int .u8) 1 ((Addr.mk b3 0 none).add 0) fun v8 =>
  cond (v6 == v8) (
    C.ld .slice 1 ((Addr.mk b2 0 none).add 1) fun v12 =>
    C.ld .slice 1 ((Addr.mk b3 0 none).add 1) fun v14 =>
    C.call n_bytes_Equal [(.slice v12.a v12.n v12.c), (.slice v14.a v14.n v14.c)] [.bool] fun r15 =>
    C.ret (.bool r15)
  ) (
    C.ret (.bool false)
  )
theorem impl_SameBlob_eq (C : Comb) (x0 : Array Value) (x1 : Array Value) : fT C Tryz.prog { loop := [], join := [], anyOrder := [], pure := [] } n_impl_SameBlob [(.agg x0), (.agg x1)] = impl_SameBlob C x0 x1 := by kernel_rfl
theorem impl_SameBlob_calls {R : Value → World → Prop} {w : World} (x0 : Array Value) (x1 : Array Value) (h : (impl_SameBlob (real Tryz.prog R) x0 x1 : World → Prop) w) :
    Calls Tryz.prog n_impl_SameBlob [(.agg x0), (.agg x1)].toArray w fun e w' => ∃ v, e = .returned v ∧ R v w' := fT_sound mixed { loop := [], join := [], anyOrder := [], pure := [] } (by rw [impl_SameBlob_eq]; exact h)

/-- slices.Insert[[]impl.Key,impl.Key] (83) -/
def slices_Insert_sl_impl_Key_impl_Key (C : Comb) (x0 : Sl) (x1 : Int) (x2 : Sl) : C.St :=
  C.sl x0.a x0.n x0.c 32 (some x1) none none fun y12 =>
  cond ((x2.n : Int) == 0) (
    C.ret (.slice x0.a x0.n x0.c)
  ) (
    cond (x1 == (x0.n : Int)) (
      C.sem (Builtin.append_ #[ty_sl_impl_Key, ty_sl_impl_Key] ty_sl_impl_Key #[(.slice x0.a x0.n x0.c), (.slice x2.a x2.n x2.c)]) .slice fun y25 =>
      C.ret (.slice y25.a y25.n y25.c)
    ) (
      cond (decide ((IntKind.wrap .i64 ((x0.n : Int) + (x2.n : Int))) > (x0.c : Int))) (
        C.sl x0.a x0.n x0.c 32 none (some x1) none fun y34 =>
        C.sem (Builtin.append_ #[ty_sl_impl_Key, ty_int] ty_sl_impl_Key #[(.slice y34.a y34.n y34.c), (.int .i64 (IntKind.wrap .i64 ((IntKind.wrap .i64 ((x0.n : Int) + (x2.n : Int))) - x1)))]) .slice fun y40 =>
        C.sl y40.a y40.n y40.c 32 (some x1) none none fun y43 =>
        C.sem (Builtin.copy_ #[ty_sl_impl_Key, ty_sl_impl_Key] ty_int #[(.slice y43.a y43.n y43.c), (.slice x2.a x2.n x2.c)]) (.int .i64) fun y45 =>
        C.draw <|
        C.sl y40.a y40.n y40.c 32 (some (IntKind.wrap .i64 (x1 + (x2.n : Int)))) none none fun y50 =>
        C.sl x0.a x0.n x0.c 32 (some x1) none none fun y53 =>
        C.sem (Builtin.copy_ #[ty_sl_impl_Key, ty_sl_impl_Key] ty_int #[(.slice y50.a y50.n y50.c), (.slice y53.a y53.n y53.c)]) (.int .i64) fun y54 =>
        C.ret (.slice y40.a y40.n y40.c)
      ) (
        C.sl x0.a x0.n x0.c 32 none (some (IntKind.wrap .i64 ((x0.n : Int) + (x2.n : Int)))) none fun y60 =>
        C.sl y60.a y60.n y60.c 32 (some (IntKind.wrap .i64 (x1 + (x2.n : Int)))) none none fun y66 =>
        C.ext n_slices_overlaps_impl_Key [(.slice x2.a x2.n x2.c), (.slice y66.a y66.n y66.c)] [.bool] fun r67 =>
        cond (!r67) (
          C.join (TL []) (embL []) (fun s16 => C.any fun _ =>
              C.sl y60.a y60.n y60.c 32 (some x1) none none fun y80 =>
              C.sem (Builtin.copy_ #[ty_sl_impl_Key, ty_sl_impl_Key] ty_int #[(.slice y80.a y80.n y80.c), (.slice x2.a x2.n x2.c)]) (.int .i64) fun y82 =>
              C.ret (.slice y60.a y60.n y60.c)
            ) fun jt =>
          C.draw <|
          C.sl y60.a y60.n y60.c 32 (some (IntKind.wrap .i64 (x1 + (x2.n : Int)))) none none fun y73 =>
          C.sl y60.a y60.n y60.c 32 (some x1) none none fun y76 =>
          C.sem (Builtin.copy_ #[ty_sl_impl_Key, ty_sl_impl_Key] ty_int #[(.slice y73.a y73.n y73.c), (.slice y76.a y76.n y76.c)]) (.int .i64) fun y77 =>
          jt []
        ) (
          C.sl y60.a y60.n y60.c 32 (some (x0.n : Int)) none none fun y86 =>
          C.sem (Builtin.copy_ #[ty_sl_impl_Key, ty_sl_impl_Key] ty_int #[(.slice y86.a y86.n y86.c), (.slice x2.a x2.n x2.c)]) (.int .i64) fun y88 =>
          C.sl y60.a y60.n y60.c 32 (some x1) none none fun y91 =>
          C.call n_slices_rotateRight_impl_Key [(.slice y91.a y91.n y91.c), (.int .i64 (x2.n : Int))] [] fun r93 =>
          C.ret (.slice y60.a y60.n y60.c)
        )
      )
    )
  )
theorem slices_Insert_sl_impl_Key_impl_Key_eq (C : Comb) (x0 : Sl) (x1 : Int) (x2 : Sl) : fT C Tryz.prog { loop := [], join := [(46, [])], anyOrder := [11, 15], pure := [] } n_slices_Insert_sl_impl_Key_impl_Key [(.slice x0.a x0.n x0.c), (.int .i64 x1), (.slice x2.a x2.n x2.c)] = slices_Insert_sl_impl_Key_impl_Key C x0 x1 x2 := by kernel_rfl
theorem slices_Insert_sl_impl_Key_impl_Key_calls {R : Value → World → Prop} {w : World} (x0 : Sl) (x1 : Int) (x2 : Sl) (h : (slices_Insert_sl_impl_Key_impl_Key (real Tryz.prog R) x0 x1 x2 : World → Prop) w) :
    Calls Tryz.prog n_slices_Insert_sl_impl_Key_impl_Key [(.slice x0.a x0.n x0.c), (.int .i64 x1), (.slice x2.a x2.n x2.c)].toArray w fun e w' => ∃ v, e = .returned v ∧ R v w' := fT_sound mixed { loop := [], join := [(46, [])], anyOrder := [11, 15], pure := [] } (by rw [slices_Insert_sl_impl_Key_impl_Key_eq]; exact h)

/-- slices.Insert[[]impl.Blob,impl.Blob] (84) -/
def slices_Insert_sl_impl_Blob_impl_Blob (C : Comb) (x0 : Sl) (x1 : Int) (x2 : Sl) : C.St :=
  C.sl x0.a x0.n x0.c 2 (some x1) none none fun y12 =>
  cond ((x2.n : Int) == 0) (
    C.ret (.slice x0.a x0.n x0.c)
  ) (
    cond (x1 == (x0.n : Int)) (
      C.sem (Builtin.append_ #[ty_sl_impl_Blob, ty_sl_impl_Blob] ty_sl_impl_Blob #[(.slice x0.a x0.n x0.c), (.slice x2.a x2.n x2.c)]) .slice fun y25 =>
      C.ret (.slice y25.a y25.n y25.c)
    ) (
      cond (decide ((IntKind.wrap .i64 ((x0.n : Int) + (x2.n : Int))) > (x0.c : Int))) (
        C.sl x0.a x0.n x0.c 2 none (some x1) none fun y34 =>
        C.sem (Builtin.append_ #[ty_sl_impl_Blob, ty_int] ty_sl_impl_Blob #[(.slice y34.a y34.n y34.c), (.int .i64 (IntKind.wrap .i64 ((IntKind.wrap .i64 ((x0.n : Int) + (x2.n : Int))) - x1)))]) .slice fun y40 =>
        C.sl y40.a y40.n y40.c 2 (some x1) none none fun y43 =>
        C.sem (Builtin.copy_ #[ty_sl_impl_Blob, ty_sl_impl_Blob] ty_int #[(.slice y43.a y43.n y43.c), (.slice x2.a x2.n x2.c)]) (.int .i64) fun y45 =>
        C.draw <|
        C.sl y40.a y40.n y40.c 2 (some (IntKind.wrap .i64 (x1 + (x2.n : Int)))) none none fun y50 =>
        C.sl x0.a x0.n x0.c 2 (some x1) none none fun y53 =>
        C.sem (Builtin.copy_ #[ty_sl_impl_Blob, ty_sl_impl_Blob] ty_int #[(.slice y50.a y50.n y50.c), (.slice y53.a y53.n y53.c)]) (.int .i64) fun y54 =>
        C.ret (.slice y40.a y40.n y40.c)
      ) (
        C.sl x0.a x0.n x0.c 2 none (some (IntKind.wrap .i64 ((x0.n : Int) + (x2.n : Int)))) none fun y60 =>
        C.sl y60.a y60.n y60.c 2 (some (IntKind.wrap .i64 (x1 + (x2.n : Int)))) none none fun y66 =>
        C.ext n_slices_overlaps_impl_Blob [(.slice x2.a x2.n x2.c), (.slice y66.a y66.n y66.c)] [.bool] fun r67 =>
        cond (!r67) (
          C.join (TL []) (embL []) (fun s16 => C.any fun _ =>
              C.sl y60.a y60.n y60.c 2 (some x1) none none fun y80 =>
              C.sem (Builtin.copy_ #[ty_sl_impl_Blob, ty_sl_impl_Blob] ty_int #[(.slice y80.a y80.n y80.c), (.slice x2.a x2.n x2.c)]) (.int .i64) fun y82 =>
              C.ret (.slice y60.a y60.n y60.c)
            ) fun jt =>
          C.draw <|
          C.sl y60.a y60.n y60.c 2 (some (IntKind.wrap .i64 (x1 + (x2.n : Int)))) none none fun y73 =>
          C.sl y60.a y60.n y60.c 2 (some x1) none none fun y76 =>
          C.sem (Builtin.copy_ #[ty_sl_impl_Blob, ty_sl_impl_Blob] ty_int #[(.slice y73.a y73.n y73.c), (.slice y76.a y76.n y76.c)]) (.int .i64) fun y77 =>
          jt []
        ) (
          C.sl y60.a y60.n y60.c 2 (some (x0.n : Int)) none none fun y86 =>
          C.sem (Builtin.copy_ #[ty_sl_impl_Blob, ty_sl_impl_Blob] ty_int #[(.slice y86.a y86.n y86.c), (.slice x2.a x2.n x2.c)]) (.int .i64) fun y88 =>
          C.sl y60.a y60.n y60.c 2 (some x1) none none fun y91 =>
          C.call n_slices_rotateRight_impl_Blob [(.slice y91.a y91.n y91.c), (.int .i64 (x2.n : Int))] [] fun r93 =>
          C.ret (.slice y60.a y60.n y60.c)
        )
      )
    )
  )
theorem slices_Insert_sl_impl_Blob_impl_Blob_eq (C : Comb) (x0 : Sl) (x1 : Int) (x2 : Sl) : fT C Tryz.prog { loop := [], join := [(46, [])], anyOrder := [11, 15], pure := [] } n_slices_Insert_sl_impl_Blob_impl_Blob [(.slice x0.a x0.n x0.c), (.int .i64 x1), (.slice x2.a x2.n x2.c)] = slices_Insert_sl_impl_Blob_impl_Blob C x0 x1 x2 := by kernel_rfl
theorem slices_Insert_sl_impl_Blob_impl_Blob_calls {R : Value → World → Prop} {w : World} (x0 : Sl) (x1 : Int) (x2 : Sl) (h : (slices_Insert_sl_impl_Blob_impl_Blob (real Tryz.prog R) x0 x1 x2 : World → Prop) w) :
    Calls Tryz.prog n_slices_Insert_sl_impl_Blob_impl_Blob [(.slice x0.a x0.n x0.c), (.int .i64 x1), (.slice x2.a x2.n x2.c)].toArray w fun e w' => ∃ v, e = .returned v ∧ R v w' := fT_sound mixed { loop := [], join := [(46, [])], anyOrder := [11, 15], pure := [] } (by rw [slices_Insert_sl_impl_Blob_impl_Blob_eq]; exact h)

/-- (impl.Blob).copied (85) -/
def impl_Blob_copied (C : Comb) (x0 : Array Value) : C.St :=
  C.new ty_impl_Blob (.agg x0) fun b1 =>
  C.new ty_impl_Blob (.agg (#[(.int .u8 0), (.slice none 0 0)])) fun b2 =>
  C.draw <|
  C.ld (.int .u8) 1 ((Addr.mk b1 0 none).add 0) fun v4 =>
  C.ld .slice 1 ((Addr.mk b1 0 none).add 1) fun v6 =>
  C.call n_slices_Clone_sl_byte_byte [(.slice v6.a v6.n v6.c)] [.slice] fun r7 =>
  C.chk [⟨1, 1, ((Addr.mk b1 0 none).add 0), (.int .u8), v4⟩] <|
  C.pur (Instr.build ty_impl_Blob #[(0, (.int .u8 v4)), (1, (.slice r7.a r7.n r7.c))]) .agg fun y8 =>
  C.st 2 (Addr.mk b2 0 none) (.agg y8) <|
  C.ld .agg 2 (Addr.mk b2 0 none) fun z7 =>
  C.ret (.agg z7)
theorem impl_Blob_copied_eq (C : Comb) (x0 : Array Value) : fT C Tryz.prog { loop := [], join := [], anyOrder := [1], pure := [] } n_impl_Blob_copied [(.agg x0)] = impl_Blob_copied C x0 := by kernel_rfl
theorem impl_Blob_copied_calls {R : Value → World → Prop} {w : World} (x0 : Array Value) (h : (impl_Blob_copied (real Tryz.prog R) x0 : World → Prop) w) :
    Calls Tryz.prog n_impl_Blob_copied [(.agg x0)].toArray w fun e w' => ∃ v, e = .returned v ∧ R v w' := fT_sound mixed { loop := [], join := [], anyOrder := [1], pure := [] } (by rw [impl_Blob_copied_eq]; exact h)

/-- impl.blocks (86) -/
def impl_blocks (C : Comb) (x0 : Sl) : C.St :=
  C.sem (Instr.buildSlice ty_sl_arr32_uint8 0 #[]) .slice fun y5 =>
  C.loop (TL [.slice, .slice]) (embL [.slice, .slice]) [(.slice x0.a x0.n x0.c), (.slice y5.a y5.n y5.c)] fun s2 ct2 => C.any fun _ =>
  cond (decide ((s2.1.n : Int) ≥ 32)) (
    C.pur (Instr.arrayAt ty_arr32_uint8 (.slice s2.1.a s2.1.n s2.1.c)) .ptr fun y11 =>
    C.ld .agg 32 y11 fun v12 =>
    C.sem (Instr.buildSlice ty_sl_arr32_uint8 1 #[(0, (.agg v12))]) .slice fun y13 =>
    C.sem (Builtin.append_ #[ty_sl_arr32_uint8, ty_sl_arr32_uint8] ty_sl_arr32_uint8 #[(.slice s2.2.a s2.2.n s2.2.c), (.slice y13.a y13.n y13.c)]) .slice fun y14 =>
    C.sl s2.1.a s2.1.n s2.1.c 1 (some 32) none none fun y16 =>
    ct2 [(.slice y16.a y16.n y16.c), (.slice y14.a y14.n y14.c)]
  ) (
    C.ret (.tuple #[(.slice s2.2.a s2.2.n s2.2.c), (.slice s2.1.a s2.1.n s2.1.c)])
  )
theorem impl_blocks_eq (C : Comb) (x0 : Sl) : fT C Tryz.prog { loop := [(2, [(0, .slice), (4, .slice)])], join := [], anyOrder := [], pure := [] } n_impl_blocks [(.slice x0.a x0.n x0.c)] = impl_blocks C x0 := by kernel_rfl
theorem impl_blocks_calls {R : Value → World → Prop} {w : World} (x0 : Sl) (h : (impl_blocks (real Tryz.prog R) x0 : World → Prop) w) :
    Calls Tryz.prog n_impl_blocks [(.slice x0.a x0.n x0.c)].toArray w fun e w' => ∃ v, e = .returned v ∧ R v w' := fT_sound mixed { loop := [(2, [(0, .slice), (4, .slice)])], join := [], anyOrder := [], pure := [] } (by rw [impl_blocks_eq]; exact h)

/-- impl.padding (87) -/
def impl_padding (C : Comb) (x0 : Int) : C.St :=
  C.sem (Instr.buildSlice ty_sl_uint8 1 #[(0, (.int .u8 128))]) .slice fun y4 =>
  C.loop (TL [.slice]) (embL [.slice]) [(.slice y4.a y4.n y4.c)] fun s2 ct2 => C.any fun _ =>
  C.call n_impl_size_byte [(.slice s2.a s2.n s2.c)] [(.int .i64)] fun r7 =>
  cond ((Int.tmod (IntKind.wrap .i64 (x0 + r7)) 32) != 24) (
    C.sem (Instr.buildSlice ty_sl_uint8 1 #[(0, (.int .u8 0))]) .slice fun y12 =>
    C.sem (Builtin.append_ #[ty_sl_uint8, ty_sl_uint8] ty_sl_uint8 #[(.slice s2.a s2.n s2.c), (.slice y12.a y12.n y12.c)]) .slice fun y13 =>
    ct2 [(.slice y13.a y13.n y13.c)]
  ) (
    C.call n_impl_appendLittle [(.slice s2.a s2.n s2.c), (.int .u64 (IntKind.wrap .u64 (x0))), (.int .i64 8)] [.slice] fun r17 =>
    C.ret (.slice r17.a r17.n r17.c)
  )
theorem impl_padding_eq (C : Comb) (x0 : Int) : fT C Tryz.prog { loop := [(2, [(3, .slice)])], join := [], anyOrder := [], pure := [] } n_impl_padding [(.int .i64 x0)] = impl_padding C x0 := by kernel_rfl
theorem impl_padding_calls {R : Value → World → Prop} {w : World} (x0 : Int) (h : (impl_padding (real Tryz.prog R) x0 : World → Prop) w) :
    Calls Tryz.prog n_impl_padding [(.int .i64 x0)].toArray w fun e w' => ∃ v, e = .returned v ∧ R v w' := fT_sound mixed { loop := [(2, [(3, .slice)])], join := [], anyOrder := [], pure := [] } (by rw [impl_padding_eq]; exact h)

/-- impl.size[byte] (88) -/
def impl_size_byte (C : Comb) (x0 : Sl) : C.St :=
  C.ret (.int .i64 (x0.n : Int))
theorem impl_size_byte_eq (C : Comb) (x0 : Sl) : fT C Tryz.prog { loop := [], join := [], anyOrder := [], pure := [] } n_impl_size_byte [(.slice x0.a x0.n x0.c)] = impl_size_byte C x0 := by kernel_rfl
theorem impl_size_byte_calls {R : Value → World → Prop} {w : World} (x0 : Sl) (h : (impl_size_byte (real Tryz.prog R) x0 : World → Prop) w) :
    Calls Tryz.prog n_impl_size_byte [(.slice x0.a x0.n x0.c)].toArray w fun e w' => ∃ v, e = .returned v ∧ R v w' := fT_sound mixed { loop := [], join := [], anyOrder := [], pure := [] } (by rw [impl_size_byte_eq]; exact h)

/-- impl.keyOf (89) -/
def impl_keyOf (C : Comb) (x0 : Array Value) : C.St :=
  C.new ty_arr8_uint32 (.agg x0) fun b1 =>
  C.new ty_impl_Key (.agg (Array.replicate 32 (.int .u8 0))) fun b2 =>
  C.new ty_impl_Key (.agg (Array.replicate 32 (.int .u8 0))) fun b3 =>
  C.st 32 (Addr.mk b3 0 none) (.agg (Array.replicate 32 (.int .u8 0))) <|
  C.ld .agg 8 (Addr.mk b1 0 none) fun v7 =>
  C.loop (TL [(.int .i64)]) (embL [(.int .i64)]) [(.int .i64 0)] fun s5 ct5 => C.any fun _ =>
  cond (decide (s5 < 8)) (
    C.ixV (.int .u32) v7 8 1 s5 fun y11 =>
    C.draw <|
    C.sl (some (Addr.mk b3 0 none)) 32 32 1 (some (IntKind.wrap .i64 (4 * s5))) none none fun y14 =>
    C.call n_impl_appendLittle [(.slice none 0 0), (.int .u64 (IntKind.wrap .u64 (y11))), (.int .i64 4)] [.slice] fun r17 =>
    C.sem (Builtin.copy_ #[ty_sl_uint8, ty_sl_uint8] ty_int #[(.slice y14.a y14.n y14.c), (.slice r17.a r17.n r17.c)]) (.int .i64) fun y18 =>
    ct5 [(.int .i64 (IntKind.wrap .i64 (s5 + 1)))]
  ) (
    C.ld .agg 32 (Addr.mk b3 0 none) fun v20 =>
    C.st 32 (Addr.mk b2 0 none) (.agg v20) <|
    C.ld .agg 32 (Addr.mk b2 0 none) fun z11 =>
    C.ret (.agg z11)
  )
theorem impl_keyOf_eq (C : Comb) (x0 : Array Value) : fT C Tryz.prog { loop := [(3, [(8, (.int .i64))])], join := [], anyOrder := [5], pure := [] } n_impl_keyOf [(.agg x0)] = impl_keyOf C x0 := by kernel_rfl
theorem impl_keyOf_calls {R : Value → World → Prop} {w : World} (x0 : Array Value) (h : (impl_keyOf (real Tryz.prog R) x0 : World → Prop) w) :
    Calls Tryz.prog n_impl_keyOf [(.agg x0)].toArray w fun e w' => ∃ v, e = .returned v ∧ R v w' := fT_sound mixed { loop := [(3, [(8, (.int .i64))])], join := [], anyOrder := [5], pure := [] } (by rw [impl_keyOf_eq]; exact h)

/-- impl.mixed (90) -/
def impl_mixed (C : Comb) (x0 : Array Value) (x1 : Sl) : C.St :=
  C.new ty_arr8_uint32 (.agg x0) fun b2 =>
  C.new ty_arr8_uint32 (.agg (Array.replicate 8 (.int .u32 0))) fun b4 =>
  C.loop (TL [(.int .i64)]) (embL [(.int .i64)]) [(.int .i64 0)] fun s3 ct3 => C.any fun _ =>
  cond (decide (s3 < (x1.n : Int))) (
    C.ix x1.a x1.n 32 s3 fun p11 =>
    C.ld .agg 32 p11 fun v12 =>
    C.new ty_arr32_uint8 (.agg (Array.replicate 32 (.int .u8 0))) fun b6 =>
    C.st 32 (Addr.mk b6 0 none) (.agg v12) <|
    C.ld .agg 8 (Addr.mk b2 0 none) fun v13 =>
    C.ld .agg 32 (Addr.mk b6 0 none) fun v14 =>
    C.call n_impl_MixBlock [(.agg v13), (.agg v14)] [.agg] fun r15 =>
    C.st 8 (Addr.mk b2 0 none) (.agg r15) <|
    ct3 [(.int .i64 (IntKind.wrap .i64 (s3 + 1)))]
  ) (
    C.ld .agg 8 (Addr.mk b2 0 none) fun v17 =>
    C.st 8 (Addr.mk b4 0 none) (.agg v17) <|
    C.ld .agg 8 (Addr.mk b4 0 none) fun z11 =>
    C.ret (.agg z11)
  )
theorem impl_mixed_eq (C : Comb) (x0 : Array Value) (x1 : Sl) : fT C Tryz.prog { loop := [(2, [(9, (.int .i64))])], join := [], anyOrder := [], pure := [] } n_impl_mixed [(.agg x0), (.slice x1.a x1.n x1.c)] = impl_mixed C x0 x1 := by kernel_rfl
theorem impl_mixed_calls {R : Value → World → Prop} {w : World} (x0 : Array Value) (x1 : Sl) (h : (impl_mixed (real Tryz.prog R) x0 x1 : World → Prop) w) :
    Calls Tryz.prog n_impl_mixed [(.agg x0), (.slice x1.a x1.n x1.c)].toArray w fun e w' => ∃ v, e = .returned v ∧ R v w' := fT_sound mixed { loop := [(2, [(9, (.int .i64))])], join := [], anyOrder := [], pure := [] } (by rw [impl_mixed_eq]; exact h)

/-- impl.StartState (91) -/
def impl_StartState (C : Comb) (x0 : Int) : C.St :=
  C.new ty_arr8_uint32 (.agg (Array.replicate 8 (.int .u32 0))) fun b2 =>
  C.new ty_arr8_uint32 (.agg (Array.replicate 8 (.int .u32 0))) fun b3 =>
  C.st 8 (Addr.mk b3 0 none) (.agg (Array.replicate 8 (.int .u32 0))) <|
  C.loop (TL [(.int .i64)]) (embL [(.int .i64)]) [(.int .i64 0)] fun s3 ct3 => C.any fun _ =>
  cond (decide (s3 < 8)) (
    C.ix (some (Addr.mk b3 0 none)) 8 1 s3 fun p17 =>
    C.st 1 p17 (.int .u32 (IntKind.wrap .u32 ((IntKind.wrap .u32 (16777619 * (IntKind.wrap .u32 ((IntKind.wrap .i64 (s3 + 1)))))) + (IntKind.wrap .u32 (x0))))) <|
    ct3 [(.int .i64 (IntKind.wrap .i64 (s3 + 1)))]
  ) (
    C.ld .agg 8 (Addr.mk b3 0 none) fun v19 =>
    C.st 8 (Addr.mk b2 0 none) (.agg v19) <|
    C.ld .agg 8 (Addr.mk b2 0 none) fun z6 =>
    C.ret (.agg z6)
  )
theorem impl_StartState_eq (C : Comb) (x0 : Int) : fT C Tryz.prog { loop := [(3, [(6, (.int .i64))])], join := [], anyOrder := [], pure := [] } n_impl_StartState [(.int .u8 x0)] = impl_StartState C x0 := by kernel_rfl
theorem impl_StartState_calls {R : Value → World → Prop} {w : World} (x0 : Int) (h : (impl_StartState (real Tryz.prog R) x0 : World → Prop) w) :
    Calls Tryz.prog n_impl_StartState [(.int .u8 x0)].toArray w fun e w' => ∃ v, e = .returned v ∧ R v w' := fT_sound mixed { loop := [(3, [(6, (.int .i64))])], join := [], anyOrder := [], pure := [] } (by rw [impl_StartState_eq]; exact h)

/-- laws.eqByteS (92) -/
def laws_eqByteS (C : Comb) (x0 : Sl) (x1 : Sl) : C.St :=
  cond ((x0.n : Int) != (x1.n : Int)) (
    C.ret (.bool false)
  ) (
    C.loop (TL [(.int .i64)]) (embL [(.int .i64)]) [(.int .i64 0)] fun s1 ct1 => C.any fun _ =>
    cond (decide (s1 < (x0.n : Int))) (
      C.draw <|
      C.ix x0.a x0.n 1 s1 fun p19 =>
      C.ld (.int .u8) 1 p19 fun v20 =>
      C.ix x1.a x1.n 1 s1 fun p23 =>
      C.ld (.int .u8) 1 p23 fun v24 =>
      cond (v20 != v24) (
        C.ret (.bool false)
      ) (
        ct1 [(.int .i64 (IntKind.wrap .i64 (s1 + 1)))]
      )
    ) (
      C.ret (.bool true)
    )
  )
theorem laws_eqByteS_eq (C : Comb) (x0 : Sl) (x1 : Sl) : fT C Tryz.prog { loop := [(4, [(5, (.int .i64))])], join := [], anyOrder := [], pure := [] } n_laws_eqByteS [(.slice x0.a x0.n x0.c), (.slice x1.a x1.n x1.c)] = laws_eqByteS C x0 x1 := by kernel_rfl
theorem laws_eqByteS_calls {R : Value → World → Prop} {w : World} (x0 : Sl) (x1 : Sl) (h : (laws_eqByteS (real Tryz.prog R) x0 x1 : World → Prop) w) :
    Calls Tryz.prog n_laws_eqByteS [(.slice x0.a x0.n x0.c), (.slice x1.a x1.n x1.c)].toArray w fun e w' => ∃ v, e = .returned v ∧ R v w' := fT_sound mixed { loop := [(4, [(5, (.int .i64))])], join := [], anyOrder := [], pure := [] } (by rw [laws_eqByteS_eq]; exact h)

/-- spec.l01End (93) -/
def spec_l01End (C : Comb) (x0 : Array Value) (x1 : Sl) (x2 : Int) : C.St :=
  C.new ty_arr8_uint32 (.agg x0) fun b3 =>
  C.new ty_impl_Key (.agg (Array.replicate 32 (.int .u8 0))) fun b6 =>
  C.call n_spec_l01Padded [(.slice x1.a x1.n x1.c), (.int .i64 x2)] [.slice] fun r13 =>
  C.loop (TL [(.int .i64)]) (embL [(.int .i64)]) [(.int .i64 0)] fun s4 ct4 => C.any fun _ =>
  cond (decide (s4 < (r13.n : Int))) (
    C.draw <|
    C.ld .agg 8 (Addr.mk b3 0 none) fun v20 =>
    C.call n_spec_l01Block [(.slice r13.a r13.n r13.c), (.int .i64 s4)] [.agg] fun r23 =>
    C.chk [⟨0, 8, (Addr.mk b3 0 none), .agg, v20⟩] <|
    C.call n_spec_l01Mix [(.agg v20), (.agg r23)] [.agg] fun r24 =>
    C.st 8 (Addr.mk b3 0 none) (.agg r24) <|
    ct4 [(.int .i64 (IntKind.wrap .i64 (s4 + 32)))]
  ) (
    C.new ty_impl_Key (.agg (Array.replicate 32 (.int .u8 0))) fun b9 =>
    C.st 32 (Addr.mk b9 0 none) (.agg (Array.replicate 32 (.int .u8 0))) <|
    C.loop (TL [(.int .i64)]) (embL [(.int .i64)]) [(.int .i64 0)] fun s9 ct9 => C.any fun _ =>
    cond (decide (s9 < 32)) (
      C.ix (some (Addr.mk b3 0 none)) 8 1 (IntKind.wrap .i64 (Int.tdiv s9 4)) fun p33 =>
      C.ld (.int .u32) 1 p33 fun v34 =>
      C.pur (eqB .shr ty_uint32 (.tmp 34) (.tmp 38) (.int .u32 v34) (.int .u64 (IntKind.wrap .u64 ((IntKind.wrap .i64 (8 * (Int.tmod s9 4))))))) (.int .u32) fun y39 =>
      C.ix (some (Addr.mk b9 0 none)) 32 1 s9 fun p41 =>
      C.st 1 p41 (.int .u8 (IntKind.wrap .u8 (y39))) <|
      ct9 [(.int .i64 (IntKind.wrap .i64 (s9 + 1)))]
    ) (
      C.ld .agg 32 (Addr.mk b9 0 none) fun v42 =>
      C.st 32 (Addr.mk b6 0 none) (.agg v42) <|
      C.ld .agg 32 (Addr.mk b6 0 none) fun z15 =>
      C.ret (.agg z15)
    )
  )
theorem spec_l01End_eq (C : Comb) (x0 : Array Value) (x1 : Sl) (x2 : Int) : fT C Tryz.prog { loop := [(3, [(8, (.int .i64))]), (8, [(10, (.int .i64))])], join := [], anyOrder := [5], pure := [] } n_spec_l01End [(.agg x0), (.slice x1.a x1.n x1.c), (.int .i64 x2)] = spec_l01End C x0 x1 x2 := by kernel_rfl
theorem spec_l01End_calls {R : Value → World → Prop} {w : World} (x0 : Array Value) (x1 : Sl) (x2 : Int) (h : (spec_l01End (real Tryz.prog R) x0 x1 x2 : World → Prop) w) :
    Calls Tryz.prog n_spec_l01End [(.agg x0), (.slice x1.a x1.n x1.c), (.int .i64 x2)].toArray w fun e w' => ∃ v, e = .returned v ∧ R v w' := fT_sound mixed { loop := [(3, [(8, (.int .i64))]), (8, [(10, (.int .i64))])], join := [], anyOrder := [5], pure := [] } (by rw [spec_l01End_eq]; exact h)

/-- spec.l01Start (94) -/
def spec_l01Start (C : Comb) (x0 : Int) : C.St :=
  C.new ty_arr8_uint32 (.agg (Array.replicate 8 (.int .u32 0))) fun b2 =>
  C.new ty_arr8_uint32 (.agg (Array.replicate 8 (.int .u32 0))) fun b3 =>
  C.st 8 (Addr.mk b3 0 none) (.agg (Array.replicate 8 (.int .u32 0))) <|
  C.loop (TL [(.int .i64)]) (embL [(.int .i64)]) [(.int .i64 0)] fun s3 ct3 => C.any fun _ =>
  cond (decide (s3 < 8)) (
    C.ix (some (Addr.mk b3 0 none)) 8 1 s3 fun p18 =>
    C.st 1 p18 (.int .u32 (IntKind.wrap .u32 ((IntKind.wrap .u32 (16777619 * (IntKind.wrap .u32 ((IntKind.wrap .i64 (s3 + 1)))))) + (IntKind.wrap .u32 (x0))))) <|
    ct3 [(.int .i64 (IntKind.wrap .i64 (s3 + 1)))]
  ) (
    C.ld .agg 8 (Addr.mk b3 0 none) fun v19 =>
    C.st 8 (Addr.mk b2 0 none) (.agg v19) <|
    C.ld .agg 8 (Addr.mk b2 0 none) fun z6 =>
    C.ret (.agg z6)
  )
theorem spec_l01Start_eq (C : Comb) (x0 : Int) : fT C Tryz.prog { loop := [(3, [(4, (.int .i64))])], join := [], anyOrder := [], pure := [] } n_spec_l01Start [(.int .u8 x0)] = spec_l01Start C x0 := by kernel_rfl
theorem spec_l01Start_calls {R : Value → World → Prop} {w : World} (x0 : Int) (h : (spec_l01Start (real Tryz.prog R) x0 : World → Prop) w) :
    Calls Tryz.prog n_spec_l01Start [(.int .u8 x0)].toArray w fun e w' => ∃ v, e = .returned v ∧ R v w' := fT_sound mixed { loop := [(3, [(4, (.int .i64))])], join := [], anyOrder := [], pure := [] } (by rw [spec_l01Start_eq]; exact h)

/-- spec.l00In (95) -/
def spec_l00In (C : Comb) (x0 : Int) (x1 : Int) (x2 : Int) : C.St :=
  cond (decide (x0 ≥ x1)) (
    C.ret (.bool (decide (x0 ≤ x2)))
  ) (
    C.ret (.bool false)
  )
theorem spec_l00In_eq (C : Comb) (x0 : Int) (x1 : Int) (x2 : Int) : fT C Tryz.prog { loop := [], join := [], anyOrder := [], pure := [] } n_spec_l00In [(.int .i64 x0), (.int .i64 x1), (.int .i64 x2)] = spec_l00In C x0 x1 x2 := by kernel_rfl
theorem spec_l00In_calls {R : Value → World → Prop} {w : World} (x0 : Int) (x1 : Int) (x2 : Int) (h : (spec_l00In (real Tryz.prog R) x0 x1 x2 : World → Prop) w) :
    Calls Tryz.prog n_spec_l00In [(.int .i64 x0), (.int .i64 x1), (.int .i64 x2)].toArray w fun e w' => ∃ v, e = .returned v ∧ R v w' := fT_sound mixed { loop := [], join := [], anyOrder := [], pure := [] } (by rw [spec_l00In_eq]; exact h)

/-- slices.IndexFunc[[]impl.Blob,impl.Blob] (96) -/
def slices_IndexFunc_sl_impl_Blob_impl_Blob (C : Comb) (x0 : Sl) (x1 : Value) : C.St :=
  C.loop (TL [(.int .i64)]) (embL [(.int .i64)]) [(.int .i64 0)] fun s1 ct1 => C.any fun _ =>
  cond (decide (s1 < (x0.n : Int))) (
    C.ix x0.a x0.n 2 s1 fun p14 =>
    C.ld .agg 2 p14 fun v15 =>
    C.callV x1 [(.agg v15)] [.bool] fun r16 =>
    cond r16 (
      C.ret (.int .i64 s1)
    ) (
      ct1 [(.int .i64 (IntKind.wrap .i64 (s1 + 1)))]
    )
  ) (
    C.ret (.int .i64 (-1))
  )
theorem slices_IndexFunc_sl_impl_Blob_impl_Blob_eq (C : Comb) (x0 : Sl) (x1 : Value) : fT C Tryz.prog { loop := [(2, [(8, (.int .i64))])], join := [], anyOrder := [], pure := [] } n_slices_IndexFunc_sl_impl_Blob_impl_Blob [(.slice x0.a x0.n x0.c), x1] = slices_IndexFunc_sl_impl_Blob_impl_Blob C x0 x1 := by kernel_rfl
theorem slices_IndexFunc_sl_impl_Blob_impl_Blob_calls {R : Value → World → Prop} {w : World} (x0 : Sl) (x1 : Value) (h : (slices_IndexFunc_sl_impl_Blob_impl_Blob (real Tryz.prog R) x0 x1 : World → Prop) w) :
    Calls Tryz.prog n_slices_IndexFunc_sl_impl_Blob_impl_Blob [(.slice x0.a x0.n x0.c), x1].toArray w fun e w' => ∃ v, e = .returned v ∧ R v w' := fT_sound mixed { loop := [(2, [(8, (.int .i64))])], join := [], anyOrder := [], pure := [] } (by rw [slices_IndexFunc_sl_impl_Blob_impl_Blob_eq]; exact h)

/-- slices.Clone[[]impl.Key,impl.Key] (97) -/
def slices_Clone_sl_impl_Key_impl_Key (C : Comb) (x0 : Sl) : C.St :=
  C.pur (eqB .eql ty_sl_impl_Key (.tmp 3) (.const (.slice none 0 0)) (.slice x0.a x0.n x0.c) (.slice none 0 0)) .bool fun y4 =>
  cond y4 (
    C.ret (.slice none 0 0)
  ) (
    C.sem (Instr.buildSlice ty_sl_impl_Key 0 #[]) .slice fun y5 =>
    C.sem (Builtin.append_ #[ty_sl_impl_Key, ty_sl_impl_Key] ty_sl_impl_Key #[(.slice y5.a y5.n y5.c), (.slice x0.a x0.n x0.c)]) .slice fun y7 =>
    C.ret (.slice y7.a y7.n y7.c)
  )
theorem slices_Clone_sl_impl_Key_impl_Key_eq (C : Comb) (x0 : Sl) : fT C Tryz.prog { loop := [], join := [], anyOrder := [], pure := [] } n_slices_Clone_sl_impl_Key_impl_Key [(.slice x0.a x0.n x0.c)] = slices_Clone_sl_impl_Key_impl_Key C x0 := by kernel_rfl
theorem slices_Clone_sl_impl_Key_impl_Key_calls {R : Value → World → Prop} {w : World} (x0 : Sl) (h : (slices_Clone_sl_impl_Key_impl_Key (real Tryz.prog R) x0 : World → Prop) w) :
    Calls Tryz.prog n_slices_Clone_sl_impl_Key_impl_Key [(.slice x0.a x0.n x0.c)].toArray w fun e w' => ∃ v, e = .returned v ∧ R v w' := fT_sound mixed { loop := [], join := [], anyOrder := [], pure := [] } (by rw [slices_Clone_sl_impl_Key_impl_Key_eq]; exact h)

/-- slices.Compact[[]impl.Key,impl.Key] (99) -/
def slices_Compact_sl_impl_Key_impl_Key (C : Comb) (x0 : Sl) : C.St :=
  cond (decide ((x0.n : Int) < 2)) (
    C.ret (.slice x0.a x0.n x0.c)
  ) (
    C.loop (TL [(.int .i64)]) (embL [(.int .i64)]) [(.int .i64 1)] fun s1 ct1 => C.any fun _ =>
    cond (decide (s1 < (x0.n : Int))) (
      C.draw <|
      C.ix x0.a x0.n 32 s1 fun p18 =>
      C.ld .agg 32 p18 fun v19 =>
      C.ix x0.a x0.n 32 (IntKind.wrap .i64 (s1 - 1)) fun p23 =>
      C.ld .agg 32 p23 fun v24 =>
      C.pur (eqB .eql ty_impl_Key (.tmp 19) (.tmp 24) (.agg v19) (.agg v24)) .bool fun y25 =>
      cond y25 (
        C.sl x0.a x0.n x0.c 32 (some s1) none none fun y28 =>
        C.loop (TL [(.int .i64), (.int .i64)]) (embL [(.int .i64), (.int .i64)]) [(.int .i64 s1), (.int .i64 1)] fun s8 ct8 => C.any fun _ =>
        cond (decide (s8.2 < (y28.n : Int))) (
          C.draw <|
          C.ix y28.a y28.n 32 s8.2 fun p37 =>
          C.ld .agg 32 p37 fun v38 =>
          C.ix y28.a y28.n 32 (IntKind.wrap .i64 (s8.2 - 1)) fun p42 =>
          C.ld .agg 32 p42 fun v43 =>
          C.pur (eqB .neq ty_impl_Key (.tmp 38) (.tmp 43) (.agg v38) (.agg v43)) .bool fun y44 =>
          cond y44 (
            C.ix y28.a y28.n 32 s8.2 fun p49 =>
            C.ld .agg 32 p49 fun v50 =>
            C.ix x0.a x0.n 32 s8.1 fun p51 =>
            C.st 32 p51 (.agg v50) <|
            ct8 [(.int .i64 (IntKind.wrap .i64 (s8.1 + 1))), (.int .i64 (IntKind.wrap .i64 (s8.2 + 1)))]
          ) (
            ct8 [(.int .i64 s8.1), (.int .i64 (IntKind.wrap .i64 (s8.2 + 1)))]
          )
        ) (
          C.sl x0.a x0.n x0.c 32 (some s8.1) none none fun y56 =>
          C.sem (Builtin.clear_ #[ty_sl_impl_Key] ty_x #[(.slice y56.a y56.n y56.c)]) .val fun yq18 =>
          C.sl x0.a x0.n x0.c 32 none (some s8.1) none fun y59 =>
          C.ret (.slice y59.a y59.n y59.c)
        )
      ) (
        ct1 [(.int .i64 (IntKind.wrap .i64 (s1 + 1)))]
      )
    ) (
      C.ret (.slice x0.a x0.n x0.c)
    )
  )
theorem slices_Compact_sl_impl_Key_impl_Key_eq (C : Comb) (x0 : Sl) : fT C Tryz.prog { loop := [(4, [(3, (.int .i64))]), (9, [(3, (.int .i64)), (5, (.int .i64))])], join := [], anyOrder := [], pure := [] } n_slices_Compact_sl_impl_Key_impl_Key [(.slice x0.a x0.n x0.c)] = slices_Compact_sl_impl_Key_impl_Key C x0 := by kernel_rfl
theorem slices_Compact_sl_impl_Key_impl_Key_calls {R : Value → World → Prop} {w : World} (x0 : Sl) (h : (slices_Compact_sl_impl_Key_impl_Key (real Tryz.prog R) x0 : World → Prop) w) :
    Calls Tryz.prog n_slices_Compact_sl_impl_Key_impl_Key [(.slice x0.a x0.n x0.c)].toArray w fun e w' => ∃ v, e = .returned v ∧ R v w' := fT_sound mixed { loop := [(4, [(3, (.int .i64))]), (9, [(3, (.int .i64)), (5, (.int .i64))])], join := [], anyOrder := [], pure := [] } (by rw [slices_Compact_sl_impl_Key_impl_Key_eq]; exact h)

/-- slices.Compare[[]byte,byte] (100) -/
def slices_Compare_sl_byte_byte (C : Comb) (x0 : Sl) (x1 : Sl) : C.St :=
  C.loop (TL [(.int .i64)]) (embL [(.int .i64)]) [(.int .i64 0)] fun s1 ct1 => C.any fun _ =>
  cond (decide (s1 < (x0.n : Int))) (
    C.ix x0.a x0.n 1 s1 fun p14 =>
    C.ld (.int .u8) 1 p14 fun v15 =>
    cond (decide (s1 ≥ (x1.n : Int))) (
      C.ret (.int .i64 1)
    ) (
      C.ix x1.a x1.n 1 s1 fun p22 =>
      C.ld (.int .u8) 1 p22 fun v23 =>
      C.call n_cmp_Compare_byte [(.int .u8 v15), (.int .u8 v23)] [(.int .i64)] fun r26 =>
      cond (r26 != 0) (
        C.ret (.int .i64 r26)
      ) (
        ct1 [(.int .i64 (IntKind.wrap .i64 (s1 + 1)))]
      )
    )
  ) (
    cond (decide ((x0.n : Int) < (x1.n : Int))) (
      C.ret (.int .i64 (-1))
    ) (
      C.ret (.int .i64 0)
    )
  )
theorem slices_Compare_sl_byte_byte_eq (C : Comb) (x0 : Sl) (x1 : Sl) : fT C Tryz.prog { loop := [(2, [(11, (.int .i64))])], join := [], anyOrder := [], pure := [] } n_slices_Compare_sl_byte_byte [(.slice x0.a x0.n x0.c), (.slice x1.a x1.n x1.c)] = slices_Compare_sl_byte_byte C x0 x1 := by kernel_rfl
theorem slices_Compare_sl_byte_byte_calls {R : Value → World → Prop} {w : World} (x0 : Sl) (x1 : Sl) (h : (slices_Compare_sl_byte_byte (real Tryz.prog R) x0 x1 : World → Prop) w) :
    Calls Tryz.prog n_slices_Compare_sl_byte_byte [(.slice x0.a x0.n x0.c), (.slice x1.a x1.n x1.c)].toArray w fun e w' => ∃ v, e = .returned v ∧ R v w' := fT_sound mixed { loop := [(2, [(11, (.int .i64))])], join := [], anyOrder := [], pure := [] } (by rw [slices_Compare_sl_byte_byte_eq]; exact h)

/-- impl.within (101) -/
def impl_within (C : Comb) (x0 : Int) (x1 : Int) (x2 : Int) : C.St :=
  cond (decide (x0 ≥ x1)) (
    C.ret (.bool (decide (x0 ≤ x2)))
  ) (
    C.ret (.bool false)
  )
theorem impl_within_eq (C : Comb) (x0 : Int) (x1 : Int) (x2 : Int) : fT C Tryz.prog { loop := [], join := [], anyOrder := [], pure := [] } n_impl_within [(.int .i64 x0), (.int .i64 x1), (.int .i64 x2)] = impl_within C x0 x1 x2 := by kernel_rfl
theorem impl_within_calls {R : Value → World → Prop} {w : World} (x0 : Int) (x1 : Int) (x2 : Int) (h : (impl_within (real Tryz.prog R) x0 x1 x2 : World → Prop) w) :
    Calls Tryz.prog n_impl_within [(.int .i64 x0), (.int .i64 x1), (.int .i64 x2)].toArray w fun e w' => ∃ v, e = .returned v ∧ R v w' := fT_sound mixed { loop := [], join := [], anyOrder := [], pure := [] } (by rw [impl_within_eq]; exact h)

/-- slices.BinarySearchFunc[[]impl.Key,impl.Key,impl.Key] (102) -/
def slices_BinarySearchFunc_sl_impl_Key_impl_Key_impl_Key (C : Comb) (x0 : Sl) (x1 : Array Value) (x2 : Value) : C.St :=
  C.new ty_impl_Key (.agg x1) fun b4 =>
  C.loop (TL [(.int .i64), (.int .i64)]) (embL [(.int .i64), (.int .i64)]) [(.int .i64 0), (.int .i64 (x0.n : Int))] fun s2 ct2 => C.any fun _ =>
  cond (decide (s2.1 < s2.2)) (
    C.draw <|
    C.ix x0.a x0.n 32 (IntKind.wrap .i64 ((Int.fdiv (IntKind.wrap .u64 ((IntKind.wrap .i64 (s2.1 + s2.2)))) (2 ^ 1)))) fun p27 =>
    C.ld .agg 32 p27 fun v28 =>
    C.ld .agg 32 (Addr.mk b4 0 none) fun v29 =>
    C.callV x2 [(.agg v28), (.agg v29)] [(.int .i64)] fun r30 =>
    cond (decide (r30 < 0)) (
      ct2 [(.int .i64 (IntKind.wrap .i64 ((IntKind.wrap .i64 ((Int.fdiv (IntKind.wrap .u64 ((IntKind.wrap .i64 (s2.1 + s2.2)))) (2 ^ 1)))) + 1))), (.int .i64 s2.2)]
    ) (
      ct2 [(.int .i64 s2.1), (.int .i64 (IntKind.wrap .i64 ((Int.fdiv (IntKind.wrap .u64 ((IntKind.wrap .i64 (s2.1 + s2.2)))) (2 ^ 1)))))]
    )
  ) (
    C.draw <|
    cond (decide (s2.1 < (x0.n : Int))) (
      C.ix x0.a x0.n 32 s2.1 fun p43 =>
      C.all [
        (C.ld .agg 32 p43 fun v44 =>
         C.ld .agg 32 (Addr.mk b4 0 none) fun v45 =>
         C.callV x2 [(.agg v44), (.agg v45)] [(.int .i64)] fun r46 =>
         C.ret (.tuple #[(.int .i64 s2.1), (.bool (r46 == 0))])),
        (C.ld .agg 32 (Addr.mk b4 0 none) fun v45 =>
         C.ld .agg 32 p43 fun v44 =>
         C.callV x2 [(.agg v44), (.agg v45)] [(.int .i64)] fun r46 =>
         C.ret (.tuple #[(.int .i64 s2.1), (.bool (r46 == 0))]))]
    ) (
      C.all [
        (C.ret (.tuple #[(.int .i64 s2.1), (.bool false)])),
        (C.ret (.tuple #[(.int .i64 s2.1), (.bool false)]))]
    )
  )
theorem slices_BinarySearchFunc_sl_impl_Key_impl_Key_impl_Key_eq (C : Comb) (x0 : Sl) (x1 : Array Value) (x2 : Value) : fT C Tryz.prog { loop := [(3, [(9, (.int .i64)), (10, (.int .i64))])], join := [], anyOrder := [5, 8], pure := [] } n_slices_BinarySearchFunc_sl_impl_Key_impl_Key_impl_Key [(.slice x0.a x0.n x0.c), (.agg x1), x2] = slices_BinarySearchFunc_sl_impl_Key_impl_Key_impl_Key C x0 x1 x2 := by kernel_rfl
theorem slices_BinarySearchFunc_sl_impl_Key_impl_Key_impl_Key_calls {R : Value → World → Prop} {w : World} (x0 : Sl) (x1 : Array Value) (x2 : Value) (h : (slices_BinarySearchFunc_sl_impl_Key_impl_Key_impl_Key (real Tryz.prog R) x0 x1 x2 : World → Prop) w) :
    Calls Tryz.prog n_slices_BinarySearchFunc_sl_impl_Key_impl_Key_impl_Key [(.slice x0.a x0.n x0.c), (.agg x1), x2].toArray w fun e w' => ∃ v, e = .returned v ∧ R v w' := fT_sound mixed { loop := [(3, [(9, (.int .i64)), (10, (.int .i64))])], join := [], anyOrder := [5, 8], pure := [] } (by rw [slices_BinarySearchFunc_sl_impl_Key_impl_Key_impl_Key_eq]; exact h)

/-- bytes.Equal (103) -/
def bytes_Equal (C : Comb) (x0 : Sl) (x1 : Sl) : C.St :=
  C.sem (convert ty_sl_uint8 ty_string (.slice x0.a x0.n x0.c)) .str fun y6 =>
  C.sem (convert ty_sl_uint8 ty_string (.slice x1.a x1.n x1.c)) .str fun y8 =>
  C.pur (eqB .eql ty_string (.tmp 6) (.tmp 8) (.string y6) (.string y8)) .bool fun y9 =>
  C.ret (.bool y9)
theorem bytes_Equal_eq (C : Comb) (x0 : Sl) (x1 : Sl) : fT C Tryz.prog { loop := [], join := [], anyOrder := [], pure := [] } n_bytes_Equal [(.slice x0.a x0.n x0.c), (.slice x1.a x1.n x1.c)] = bytes_Equal C x0 x1 := by kernel_rfl
theorem bytes_Equal_calls {R : Value → World → Prop} {w : World} (x0 : Sl) (x1 : Sl) (h : (bytes_Equal (real Tryz.prog R) x0 x1 : World → Prop) w) :
    Calls Tryz.prog n_bytes_Equal [(.slice x0.a x0.n x0.c), (.slice x1.a x1.n x1.c)].toArray w fun e w' => ∃ v, e = .returned v ∧ R v w' := fT_sound mixed { loop := [], join := [], anyOrder := [], pure := [] } (by rw [bytes_Equal_eq]; exact h)

/-- slices.Clone[[]byte,byte] (108) -/
def slices_Clone_sl_byte_byte (C : Comb) (x0 : Sl) : C.St :=
  C.pur (eqB .eql ty_sl_uint8 (.tmp 3) (.const (.slice none 0 0)) (.slice x0.a x0.n x0.c) (.slice none 0 0)) .bool fun y4 =>
  cond y4 (
    C.ret (.slice none 0 0)
  ) (
    C.sem (Instr.buildSlice ty_sl_uint8 0 #[]) .slice fun y5 =>
    C.sem (Builtin.append_ #[ty_sl_uint8, ty_sl_uint8] ty_sl_uint8 #[(.slice y5.a y5.n y5.c), (.slice x0.a x0.n x0.c)]) .slice fun y7 =>
    C.ret (.slice y7.a y7.n y7.c)
  )
theorem slices_Clone_sl_byte_byte_eq (C : Comb) (x0 : Sl) : fT C Tryz.prog { loop := [], join := [], anyOrder := [], pure := [] } n_slices_Clone_sl_byte_byte [(.slice x0.a x0.n x0.c)] = slices_Clone_sl_byte_byte C x0 := by kernel_rfl
theorem slices_Clone_sl_byte_byte_calls {R : Value → World → Prop} {w : World} (x0 : Sl) (h : (slices_Clone_sl_byte_byte (real Tryz.prog R) x0 : World → Prop) w) :
    Calls Tryz.prog n_slices_Clone_sl_byte_byte [(.slice x0.a x0.n x0.c)].toArray w fun e w' => ∃ v, e = .returned v ∧ R v w' := fT_sound mixed { loop := [], join := [], anyOrder := [], pure := [] } (by rw [slices_Clone_sl_byte_byte_eq]; exact h)

/-- impl.appendLittle (109) -/
def impl_appendLittle (C : Comb) (x0 : Sl) (x1 : Int) (x2 : Int) : C.St :=
  C.loop (TL [.slice, (.int .i64)]) (embL [.slice, (.int .i64)]) [(.slice x0.a x0.n x0.c), (.int .i64 0)] fun s1 ct1 => C.any fun _ =>
  cond (decide (s1.2 < x2)) (
    C.pur (eqB .shr ty_uint64 (.tmp 13) (.tmp 15) (.int .u64 x1) (.int .i64 (IntKind.wrap .i64 (8 * s1.2)))) (.int .u64) fun y16 =>
    C.sem (Instr.buildSlice ty_sl_uint8 1 #[(0, (.int .u8 (IntKind.wrap .u8 (y16))))]) .slice fun y18 =>
    C.sem (Builtin.append_ #[ty_sl_uint8, ty_sl_uint8] ty_sl_uint8 #[(.slice s1.1.a s1.1.n s1.1.c), (.slice y18.a y18.n y18.c)]) .slice fun y19 =>
    ct1 [(.slice y19.a y19.n y19.c), (.int .i64 (IntKind.wrap .i64 (s1.2 + 1)))]
  ) (
    C.ret (.slice s1.1.a s1.1.n s1.1.c)
  )
theorem impl_appendLittle_eq (C : Comb) (x0 : Sl) (x1 : Int) (x2 : Int) : fT C Tryz.prog { loop := [(2, [(0, .slice), (9, (.int .i64))])], join := [], anyOrder := [], pure := [] } n_impl_appendLittle [(.slice x0.a x0.n x0.c), (.int .u64 x1), (.int .i64 x2)] = impl_appendLittle C x0 x1 x2 := by kernel_rfl
theorem impl_appendLittle_calls {R : Value → World → Prop} {w : World} (x0 : Sl) (x1 : Int) (x2 : Int) (h : (impl_appendLittle (real Tryz.prog R) x0 x1 x2 : World → Prop) w) :
    Calls Tryz.prog n_impl_appendLittle [(.slice x0.a x0.n x0.c), (.int .u64 x1), (.int .i64 x2)].toArray w fun e w' => ∃ v, e = .returned v ∧ R v w' := fT_sound mixed { loop := [(2, [(0, .slice), (9, (.int .i64))])], join := [], anyOrder := [], pure := [] } (by rw [impl_appendLittle_eq]; exact h)

/-- impl.MixBlock (110) -/
def impl_MixBlock (C : Comb) (x0 : Array Value) (x1 : Array Value) : C.St :=
  C.new ty_arr8_uint32 (.agg x0) fun b2 =>
  C.new ty_arr32_uint8 (.agg x1) fun b3 =>
  C.new ty_arr8_uint32 (.agg (Array.replicate 8 (.int .u32 0))) fun b4 =>
  C.new ty_arr8_uint32 (.agg (Array.replicate 8 (.int .u32 0))) fun b5 =>
  C.st 8 (Addr.mk b5 0 none) (.agg (Array.replicate 8 (.int .u32 0))) <|
  C.loop (TL [(.int .i64)]) (embL [(.int .i64)]) [(.int .i64 0)] fun s5 ct5 => C.any fun _ =>
  cond (decide (s5 < 8)) (
    C.sl (some (Addr.mk b3 0 none)) 32 32 1 (some (IntKind.wrap .i64 (4 * s5))) (some (IntKind.wrap .i64 ((IntKind.wrap .i64 (4 * s5)) + 4))) none fun y23 =>
    C.call n_impl_littleNumber [(.slice y23.a y23.n y23.c)] [(.int .u64)] fun r24 =>
    C.ix (some (Addr.mk b5 0 none)) 8 1 s5 fun p26 =>
    C.st 1 p26 (.int .u32 (IntKind.wrap .u32 (r24))) <|
    ct5 [(.int .i64 (IntKind.wrap .i64 (s5 + 1)))]
  ) (
    C.ld .agg 8 (Addr.mk b2 0 none) fun v28 =>
    C.new ty_arr8_uint32 (.agg (Array.replicate 8 (.int .u32 0))) fun b7 =>
    C.st 8 (Addr.mk b7 0 none) (.agg v28) <|
    C.loop (TL [(.int .i64)]) (embL [(.int .i64)]) [(.int .i64 0)] fun s11 ct11 => C.any fun _ =>
    cond (decide (s11 < 12)) (
      C.loop (TL [(.int .i64)]) (embL [(.int .i64)]) [(.int .i64 0)] fun s12 ct12 => C.any fun _ =>
      cond (decide (s12 < 8)) (
        C.draw <|
        C.ix (some (Addr.mk b7 0 none)) 8 1 s12 fun p36 =>
        C.ld (.int .u32) 1 p36 fun v37 =>
        C.ix (some (Addr.mk b5 0 none)) 8 1 (Int.tmod (IntKind.wrap .i64 (s12 + (IntKind.wrap .i64 (3 * s11)))) 8) fun p43 =>
        C.ld (.int .u32) 1 p43 fun v44 =>
        C.draw <|
        C.callQ n_math_bits_RotateLeft32 [(.int .u32 (IntKind.wrap .u32 ((IntKind.wrap .u32 (v37 + v44)) + (IntKind.wrap .u32 (2654435769 * (IntKind.wrap .u32 ((IntKind.wrap .i64 ((IntKind.wrap .i64 ((IntKind.wrap .i64 (8 * s11)) + s12)) + 1))))))))), (.int .i64 7)] [(.int .u32)] fun r55 =>
        C.ix (some (Addr.mk b7 0 none)) 8 1 (Int.tmod (IntKind.wrap .i64 (s12 + 1)) 8) fun p59 =>
        C.ld (.int .u32) 1 p59 fun v60 =>
        C.ix (some (Addr.mk b7 0 none)) 8 1 (Int.tmod (IntKind.wrap .i64 (s12 + 5)) 8) fun p67 =>
        C.ld (.int .u32) 1 p67 fun v68 =>
        C.call n_math_bits_RotateLeft32 [(.int .u32 v68), (.int .i64 13)] [(.int .u32)] fun r69 =>
        C.ix (some (Addr.mk b7 0 none)) 8 1 s12 fun p71 =>
        C.st 1 p71 (.int .u32 (IntKind.wrap .u32 ((bitsI .xor .u32 r55 v60) + r69))) <|
        ct12 [(.int .i64 (IntKind.wrap .i64 (s12 + 1)))]
      ) (
        ct11 [(.int .i64 (IntKind.wrap .i64 (s11 + 1)))]
      )
    ) (
      C.loop (TL [(.int .i64)]) (embL [(.int .i64)]) [(.int .i64 0)] fun s24 ct24 => C.any fun _ =>
      cond (decide (s24 < 8)) (
        C.draw <|
        C.ix (some (Addr.mk b7 0 none)) 8 1 s24 fun p78 =>
        C.ld (.int .u32) 1 p78 fun v79 =>
        C.ix (some (Addr.mk b2 0 none)) 8 1 s24 fun p81 =>
        C.ld (.int .u32) 1 p81 fun v82 =>
        C.ix (some (Addr.mk b7 0 none)) 8 1 s24 fun p84 =>
        C.st 1 p84 (.int .u32 (bitsI .xor .u32 v79 v82)) <|
        ct24 [(.int .i64 (IntKind.wrap .i64 (s24 + 1)))]
      ) (
        C.ld .agg 8 (Addr.mk b7 0 none) fun v86 =>
        C.st 8 (Addr.mk b4 0 none) (.agg v86) <|
        C.ld .agg 8 (Addr.mk b4 0 none) fun z31 =>
        C.ret (.agg z31)
      )
    )
  )
theorem impl_MixBlock_eq (C : Comb) (x0 : Array Value) (x1 : Array Value) : fT C Tryz.prog { loop := [(3, [(14, (.int .i64))]), (9, [(29, (.int .i64))]), (12, [(32, (.int .i64))]), (20, [(74, (.int .i64))])], join := [], anyOrder := [22], pure := [] } n_impl_MixBlock [(.agg x0), (.agg x1)] = impl_MixBlock C x0 x1 := by kernel_rfl
theorem impl_MixBlock_calls {R : Value → World → Prop} {w : World} (x0 : Array Value) (x1 : Array Value) (h : (impl_MixBlock (real Tryz.prog R) x0 x1 : World → Prop) w) :
    Calls Tryz.prog n_impl_MixBlock [(.agg x0), (.agg x1)].toArray w fun e w' => ∃ v, e = .returned v ∧ R v w' := fT_sound mixed { loop := [(3, [(14, (.int .i64))]), (9, [(29, (.int .i64))]), (12, [(32, (.int .i64))]), (20, [(74, (.int .i64))])], join := [], anyOrder := [22], pure := [] } (by rw [impl_MixBlock_eq]; exact h)

/-- spec.l01Padded (111) -/
def spec_l01Padded (C : Comb) (x0 : Sl) (x1 : Int) : C.St :=
  C.sem (Instr.buildSlice ty_sl_uint8 0 #[]) .slice fun y7 =>
  C.sem (Builtin.append_ #[ty_sl_uint8, ty_sl_uint8] ty_sl_uint8 #[(.slice y7.a y7.n y7.c), (.slice x0.a x0.n x0.c)]) .slice fun y9 =>
  C.sem (Instr.buildSlice ty_sl_uint8 1 #[(0, (.int .u8 128))]) .slice fun y10 =>
  C.sem (Builtin.append_ #[ty_sl_uint8, ty_sl_uint8] ty_sl_uint8 #[(.slice y9.a y9.n y9.c), (.slice y10.a y10.n y10.c)]) .slice fun y11 =>
  C.loop (TL [.slice]) (embL [.slice]) [(.slice y11.a y11.n y11.c)] fun s5 ct5 => C.any fun _ =>
  cond ((Int.tmod (s5.n : Int) 32) != 24) (
    C.sem (Instr.buildSlice ty_sl_uint8 1 #[(0, (.int .u8 0))]) .slice fun y17 =>
    C.sem (Builtin.append_ #[ty_sl_uint8, ty_sl_uint8] ty_sl_uint8 #[(.slice s5.a s5.n s5.c), (.slice y17.a y17.n y17.c)]) .slice fun y18 =>
    ct5 [(.slice y18.a y18.n y18.c)]
  ) (
    C.loop (TL [(.int .i64), .slice, (.int .i64)]) (embL [(.int .i64), .slice, (.int .i64)]) [(.int .i64 x1), (.slice s5.a s5.n s5.c), (.int .i64 0)] fun s8 ct8 => C.any fun _ =>
    cond (decide (s8.2.2 < 8)) (
      C.sem (Instr.buildSlice ty_sl_uint8 1 #[(0, (.int .u8 (IntKind.wrap .u8 ((Int.tmod s8.1 256)))))]) .slice fun y27 =>
      C.sem (Builtin.append_ #[ty_sl_uint8, ty_sl_uint8] ty_sl_uint8 #[(.slice s8.2.1.a s8.2.1.n s8.2.1.c), (.slice y27.a y27.n y27.c)]) .slice fun y28 =>
      ct8 [(.int .i64 (IntKind.wrap .i64 (Int.tdiv s8.1 256))), (.slice y28.a y28.n y28.c), (.int .i64 (IntKind.wrap .i64 (s8.2.2 + 1)))]
    ) (
      C.ret (.slice s8.2.1.a s8.2.1.n s8.2.1.c)
    )
  )
theorem spec_l01Padded_eq (C : Comb) (x0 : Sl) (x1 : Int) : fT C Tryz.prog { loop := [(2, [(5, .slice)]), (5, [(1, (.int .i64)), (5, .slice), (6, (.int .i64))])], join := [], anyOrder := [], pure := [] } n_spec_l01Padded [(.slice x0.a x0.n x0.c), (.int .i64 x1)] = spec_l01Padded C x0 x1 := by kernel_rfl
theorem spec_l01Padded_calls {R : Value → World → Prop} {w : World} (x0 : Sl) (x1 : Int) (h : (spec_l01Padded (real Tryz.prog R) x0 x1 : World → Prop) w) :
    Calls Tryz.prog n_spec_l01Padded [(.slice x0.a x0.n x0.c), (.int .i64 x1)].toArray w fun e w' => ∃ v, e = .returned v ∧ R v w' := fT_sound mixed { loop := [(2, [(5, .slice)]), (5, [(1, (.int .i64)), (5, .slice), (6, (.int .i64))])], join := [], anyOrder := [], pure := [] } (by rw [spec_l01Padded_eq]; exact h)

/-- spec.l01Mix (112) -/
def spec_l01Mix (C : Comb) (x0 : Array Value) (x1 : Array Value) : C.St :=
  C.new ty_arr8_uint32 (.agg x0) fun b2 =>
  C.new ty_arr32_uint8 (.agg x1) fun b3 =>
  C.new ty_arr8_uint32 (.agg (Array.replicate 8 (.int .u32 0))) fun b4 =>
  C.new ty_arr8_uint32 (.agg (Array.replicate 8 (.int .u32 0))) fun b5 =>
  C.st 8 (Addr.mk b5 0 none) (.agg (Array.replicate 8 (.int .u32 0))) <|
  C.loop (TL [(.int .i64)]) (embL [(.int .i64)]) [(.int .i64 0)] fun s5 ct5 => C.any fun _ =>
  cond (decide (s5 < 8)) (
    C.loop (TL [(.int .i64)]) (embL [(.int .i64)]) [(.int .i64 3)] fun s6 ct6 => C.any fun _ =>
    cond (decide (s6 ≥ 0)) (
      C.draw <|
      C.ix (some (Addr.mk b5 0 none)) 8 1 s5 fun p25 =>
      C.ld (.int .u32) 1 p25 fun v26 =>
      C.ix (some (Addr.mk b3 0 none)) 32 1 (IntKind.wrap .i64 ((IntKind.wrap .i64 (4 * s5)) + s6)) fun p32 =>
      C.ld (.int .u8) 1 p32 fun v33 =>
      C.ix (some (Addr.mk b5 0 none)) 8 1 s5 fun p36 =>
      C.st 1 p36 (.int .u32 (bitsI .or .u32 (IntKind.wrap .u32 (v26 * 2 ^ 8)) (IntKind.wrap .u32 (v33)))) <|
      ct6 [(.int .i64 (IntKind.wrap .i64 (s6 - 1)))]
    ) (
      ct5 [(.int .i64 (IntKind.wrap .i64 (s5 + 1)))]
    )
  ) (
    C.ld .agg 8 (Addr.mk b2 0 none) fun v37 =>
    C.new ty_arr8_uint32 (.agg (Array.replicate 8 (.int .u32 0))) fun b8 =>
    C.st 8 (Addr.mk b8 0 none) (.agg v37) <|
    C.loop (TL [(.int .i64)]) (embL [(.int .i64)]) [(.int .i64 0)] fun s14 ct14 => C.any fun _ =>
    cond (decide (s14 < 12)) (
      C.loop (TL [(.int .i64)]) (embL [(.int .i64)]) [(.int .i64 0)] fun s15 ct15 => C.any fun _ =>
      cond (decide (s15 < 8)) (
        C.draw <|
        C.ix (some (Addr.mk b8 0 none)) 8 1 s15 fun p47 =>
        C.ld (.int .u32) 1 p47 fun v48 =>
        C.ix (some (Addr.mk b5 0 none)) 8 1 (Int.tmod (IntKind.wrap .i64 (s15 + (IntKind.wrap .i64 (3 * s14)))) 8) fun p54 =>
        C.ld (.int .u32) 1 p54 fun v55 =>
        C.draw <|
        C.callQ n_spec_l01Turn [(.int .u32 (IntKind.wrap .u32 ((IntKind.wrap .u32 (v48 + v55)) + (IntKind.wrap .u32 (2654435769 * (IntKind.wrap .u32 ((IntKind.wrap .i64 ((IntKind.wrap .i64 ((IntKind.wrap .i64 (8 * s14)) + s15)) + 1))))))))), (.int .u64 7)] [(.int .u32)] fun r66 =>
        C.ix (some (Addr.mk b8 0 none)) 8 1 (Int.tmod (IntKind.wrap .i64 (s15 + 1)) 8) fun p70 =>
        C.ld (.int .u32) 1 p70 fun v71 =>
        C.ix (some (Addr.mk b8 0 none)) 8 1 (Int.tmod (IntKind.wrap .i64 (s15 + 5)) 8) fun p78 =>
        C.ld (.int .u32) 1 p78 fun v79 =>
        C.call n_spec_l01Turn [(.int .u32 v79), (.int .u64 13)] [(.int .u32)] fun r80 =>
        C.ix (some (Addr.mk b8 0 none)) 8 1 s15 fun p82 =>
        C.st 1 p82 (.int .u32 (IntKind.wrap .u32 ((bitsI .xor .u32 r66 v71) + r80))) <|
        ct15 [(.int .i64 (IntKind.wrap .i64 (s15 + 1)))]
      ) (
        ct14 [(.int .i64 (IntKind.wrap .i64 (s14 + 1)))]
      )
    ) (
      C.loop (TL [(.int .i64)]) (embL [(.int .i64)]) [(.int .i64 0)] fun s27 ct27 => C.any fun _ =>
      cond (decide (s27 < 8)) (
        C.draw <|
        C.ix (some (Addr.mk b8 0 none)) 8 1 s27 fun p88 =>
        C.ld (.int .u32) 1 p88 fun v89 =>
        C.ix (some (Addr.mk b2 0 none)) 8 1 s27 fun p91 =>
        C.ld (.int .u32) 1 p91 fun v92 =>
        C.ix (some (Addr.mk b8 0 none)) 8 1 s27 fun p94 =>
        C.st 1 p94 (.int .u32 (bitsI .xor .u32 v89 v92)) <|
        ct27 [(.int .i64 (IntKind.wrap .i64 (s27 + 1)))]
      ) (
        C.ld .agg 8 (Addr.mk b8 0 none) fun v95 =>
        C.st 8 (Addr.mk b4 0 none) (.agg v95) <|
        C.ld .agg 8 (Addr.mk b4 0 none) fun z34 =>
        C.ret (.agg z34)
      )
    )
  )
theorem spec_l01Mix_eq (C : Comb) (x0 : Array Value) (x1 : Array Value) : fT C Tryz.prog { loop := [(3, [(6, (.int .i64))]), (6, [(7, (.int .i64))]), (11, [(9, (.int .i64))]), (14, [(10, (.int .i64))]), (20, [(13, (.int .i64))])], join := [], anyOrder := [8, 22], pure := [] } n_spec_l01Mix [(.agg x0), (.agg x1)] = spec_l01Mix C x0 x1 := by kernel_rfl
theorem spec_l01Mix_calls {R : Value → World → Prop} {w : World} (x0 : Array Value) (x1 : Array Value) (h : (spec_l01Mix (real Tryz.prog R) x0 x1 : World → Prop) w) :
    Calls Tryz.prog n_spec_l01Mix [(.agg x0), (.agg x1)].toArray w fun e w' => ∃ v, e = .returned v ∧ R v w' := fT_sound mixed { loop := [(3, [(6, (.int .i64))]), (6, [(7, (.int .i64))]), (11, [(9, (.int .i64))]), (14, [(10, (.int .i64))]), (20, [(13, (.int .i64))])], join := [], anyOrder := [8, 22], pure := [] } (by rw [spec_l01Mix_eq]; exact h)

/-- spec.l01Block (113) -/
def spec_l01Block (C : Comb) (x0 : Sl) (x1 : Int) : C.St :=
  C.new ty_arr32_uint8 (.agg (Array.replicate 32 (.int .u8 0))) fun b4 =>
  C.new ty_arr32_uint8 (.agg (Array.replicate 32 (.int .u8 0))) fun b5 =>
  C.st 32 (Addr.mk b5 0 none) (.agg (Array.replicate 32 (.int .u8 0))) <|
  C.loop (TL [(.int .i64)]) (embL [(.int .i64)]) [(.int .i64 0)] fun s3 ct3 => C.any fun _ =>
  cond (decide (s3 < 32)) (
    C.ix x0.a x0.n 1 (IntKind.wrap .i64 (x1 + s3)) fun p17 =>
    C.ld (.int .u8) 1 p17 fun v18 =>
    C.ix (some (Addr.mk b5 0 none)) 32 1 s3 fun p19 =>
    C.st 1 p19 (.int .u8 v18) <|
    ct3 [(.int .i64 (IntKind.wrap .i64 (s3 + 1)))]
  ) (
    C.ld .agg 32 (Addr.mk b5 0 none) fun v20 =>
    C.st 32 (Addr.mk b4 0 none) (.agg v20) <|
    C.ld .agg 32 (Addr.mk b4 0 none) fun z8 =>
    C.ret (.agg z8)
  )
theorem spec_l01Block_eq (C : Comb) (x0 : Sl) (x1 : Int) : fT C Tryz.prog { loop := [(3, [(6, (.int .i64))])], join := [], anyOrder := [], pure := [] } n_spec_l01Block [(.slice x0.a x0.n x0.c), (.int .i64 x1)] = spec_l01Block C x0 x1 := by kernel_rfl
theorem spec_l01Block_calls {R : Value → World → Prop} {w : World} (x0 : Sl) (x1 : Int) (h : (spec_l01Block (real Tryz.prog R) x0 x1 : World → Prop) w) :
    Calls Tryz.prog n_spec_l01Block [(.slice x0.a x0.n x0.c), (.int .i64 x1)].toArray w fun e w' => ∃ v, e = .returned v ∧ R v w' := fT_sound mixed { loop := [(3, [(6, (.int .i64))])], join := [], anyOrder := [], pure := [] } (by rw [spec_l01Block_eq]; exact h)

/-- cmp.Compare[byte] (116) -/
def cmp_Compare_byte (C : Comb) (x0 : Int) (x1 : Int) : C.St :=
  C.call n_cmp_isNaN_byte [(.int .u8 x0)] [.bool] fun r8 =>
  C.call n_cmp_isNaN_byte [(.int .u8 x1)] [.bool] fun r10 =>
  cond r8 (
    cond r10 (
      C.ret (.int .i64 0)
    ) (
      C.ret (.int .i64 (-1))
    )
  ) (
    cond r10 (
      C.ret (.int .i64 1)
    ) (
      cond (decide (x0 < x1)) (
        C.ret (.int .i64 (-1))
      ) (
        cond (decide (x0 > x1)) (
          C.ret (.int .i64 1)
        ) (
          C.ret (.int .i64 0)
        )
      )
    )
  )
theorem cmp_Compare_byte_eq (C : Comb) (x0 : Int) (x1 : Int) : fT C Tryz.prog { loop := [], join := [], anyOrder := [], pure := [] } n_cmp_Compare_byte [(.int .u8 x0), (.int .u8 x1)] = cmp_Compare_byte C x0 x1 := by kernel_rfl
theorem cmp_Compare_byte_calls {R : Value → World → Prop} {w : World} (x0 : Int) (x1 : Int) (h : (cmp_Compare_byte (real Tryz.prog R) x0 x1 : World → Prop) w) :
    Calls Tryz.prog n_cmp_Compare_byte [(.int .u8 x0), (.int .u8 x1)].toArray w fun e w' => ∃ v, e = .returned v ∧ R v w' := fT_sound mixed { loop := [], join := [], anyOrder := [], pure := [] } (by rw [cmp_Compare_byte_eq]; exact h)

/-- impl.littleNumber (119) -/
def impl_littleNumber (C : Comb) (x0 : Sl) : C.St :=
  C.loop (TL [(.int .u64), (.int .i64)]) (embL [(.int .u64), (.int .i64)]) [(.int .u64 0), (.int .i64 0)] fun s1 ct1 => C.any fun _ =>
  cond (decide (s1.2 < (x0.n : Int))) (
    C.ix x0.a x0.n 1 s1.2 fun p11 =>
    C.ld (.int .u8) 1 p11 fun v12 =>
    C.pur (eqB .shl ty_uint64 (.tmp 15) (.tmp 17) (.int .u64 (IntKind.wrap .u64 (v12))) (.int .i64 (IntKind.wrap .i64 (8 * s1.2)))) (.int .u64) fun y18 =>
    ct1 [(.int .u64 (bitsI .or .u64 s1.1 y18)), (.int .i64 (IntKind.wrap .i64 (s1.2 + 1)))]
  ) (
    C.ret (.int .u64 s1.1)
  )
theorem impl_littleNumber_eq (C : Comb) (x0 : Sl) : fT C Tryz.prog { loop := [(3, [(3, (.int .u64)), (8, (.int .i64))])], join := [], anyOrder := [], pure := [] } n_impl_littleNumber [(.slice x0.a x0.n x0.c)] = impl_littleNumber C x0 := by kernel_rfl
theorem impl_littleNumber_calls {R : Value → World → Prop} {w : World} (x0 : Sl) (h : (impl_littleNumber (real Tryz.prog R) x0 : World → Prop) w) :
    Calls Tryz.prog n_impl_littleNumber [(.slice x0.a x0.n x0.c)].toArray w fun e w' => ∃ v, e = .returned v ∧ R v w' := fT_sound mixed { loop := [(3, [(3, (.int .u64)), (8, (.int .i64))])], join := [], anyOrder := [], pure := [] } (by rw [impl_littleNumber_eq]; exact h)

/-- math/bits.RotateLeft32 (120) -/
def math_bits_RotateLeft32 (C : Comb) (x0 : Int) (x1 : Int) : C.St :=
  C.pur (eqB .shl ty_uint32 (.tmp 9) (.tmp 10) (.int .u32 x0) (.int .u64 (bitsI .and .u64 (IntKind.wrap .u64 (x1)) 31))) (.int .u32) fun y11 =>
  C.pur (eqB .shr ty_uint32 (.tmp 12) (.tmp 14) (.int .u32 x0) (.int .u64 (IntKind.wrap .u64 (32 - (bitsI .and .u64 (IntKind.wrap .u64 (x1)) 31))))) (.int .u32) fun y15 =>
  C.ret (.int .u32 (bitsI .or .u32 y11 y15))
theorem math_bits_RotateLeft32_eq (C : Comb) (x0 : Int) (x1 : Int) : fT C Tryz.prog { loop := [], join := [], anyOrder := [], pure := [] } n_math_bits_RotateLeft32 [(.int .u32 x0), (.int .i64 x1)] = math_bits_RotateLeft32 C x0 x1 := by kernel_rfl
theorem math_bits_RotateLeft32_calls {R : Value → World → Prop} {w : World} (x0 : Int) (x1 : Int) (h : (math_bits_RotateLeft32 (real Tryz.prog R) x0 x1 : World → Prop) w) :
    Calls Tryz.prog n_math_bits_RotateLeft32 [(.int .u32 x0), (.int .i64 x1)].toArray w fun e w' => ∃ v, e = .returned v ∧ R v w' := fT_sound mixed { loop := [], join := [], anyOrder := [], pure := [] } (by rw [math_bits_RotateLeft32_eq]; exact h)

/-- spec.l01Turn (121) -/
def spec_l01Turn (C : Comb) (x0 : Int) (x1 : Int) : C.St :=
  C.pur (eqB .shl ty_uint32 (.tmp 5) (.tmp 6) (.int .u32 x0) (.int .u64 x1)) (.int .u32) fun y7 =>
  C.pur (eqB .shr ty_uint32 (.tmp 8) (.tmp 10) (.int .u32 x0) (.int .u64 (IntKind.wrap .u64 (32 - x1)))) (.int .u32) fun y11 =>
  C.ret (.int .u32 (bitsI .or .u32 y7 y11))
theorem spec_l01Turn_eq (C : Comb) (x0 : Int) (x1 : Int) : fT C Tryz.prog { loop := [], join := [], anyOrder := [], pure := [] } n_spec_l01Turn [(.int .u32 x0), (.int .u64 x1)] = spec_l01Turn C x0 x1 := by kernel_rfl
theorem spec_l01Turn_calls {R : Value → World → Prop} {w : World} (x0 : Int) (x1 : Int) (h : (spec_l01Turn (real Tryz.prog R) x0 x1 : World → Prop) w) :
    Calls Tryz.prog n_spec_l01Turn [(.int .u32 x0), (.int .u64 x1)].toArray w fun e w' => ∃ v, e = .returned v ∧ R v w' := fT_sound mixed { loop := [], join := [], anyOrder := [], pure := [] } (by rw [spec_l01Turn_eq]; exact h)

/-- cmp.isNaN[byte] (132) -/
def cmp_isNaN_byte (C : Comb) (x0 : Int) : C.St :=
  C.ret (.bool (x0 != x0))
theorem cmp_isNaN_byte_eq (C : Comb) (x0 : Int) : fT C Tryz.prog { loop := [], join := [], anyOrder := [], pure := [] } n_cmp_isNaN_byte [(.int .u8 x0)] = cmp_isNaN_byte C x0 := by kernel_rfl
theorem cmp_isNaN_byte_calls {R : Value → World → Prop} {w : World} (x0 : Int) (h : (cmp_isNaN_byte (real Tryz.prog R) x0 : World → Prop) w) :
    Calls Tryz.prog n_cmp_isNaN_byte [(.int .u8 x0)].toArray w fun e w' => ∃ v, e = .returned v ∧ R v w' := fT_sound mixed { loop := [], join := [], anyOrder := [], pure := [] } (by rw [cmp_isNaN_byte_eq]; exact h)

end Go.Proofs.YthaecdelaifccaaGreat
