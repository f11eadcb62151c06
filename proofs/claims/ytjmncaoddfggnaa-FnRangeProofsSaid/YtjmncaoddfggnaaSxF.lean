/- Printed by a program of this claim's author: each Go function as a Lean function over abstract combinators, and the equation that says that T makes it of the loaded code. -/
import Derived.Test.YtjmncaoddfggnaaSx2
import Derived.Test.YtjmncaoddfggnaaProg
namespace Go.Proofs.Ytjmncaoddfggnaa
open Go.Sx
theorem mixed : Try.prog.follows .mixedOrders = true := by kernel_rfl

abbrev n_laws_FnExactCheckRange : Nat := 3
abbrev n_laws_FnExactCheckGrowth : Nat := 4
abbrev n_laws_FnGrowth : Nat := 5
abbrev n_laws_FnRangeProofs : Nat := 6
abbrev n_laws_szKeyS : Nat := 7
abbrev n_spec_CheckRange : Nat := 8
abbrev n_laws_toKey : Nat := 9
abbrev n_laws_toKeyS : Nat := 10
abbrev n_impl_CheckRange : Nat := 11
abbrev n_laws_eqKeyS : Nat := 12
abbrev n_spec_CheckGrowth : Nat := 13
abbrev n_impl_CheckGrowth : Nat := 14
abbrev n_laws_a2Long : Nat := 15
abbrev n_spec_A2Keys : Nat := 16
abbrev n_laws_a2At : Nat := 17
abbrev n_impl_ListKey : Nat := 18
abbrev n_impl_GrowthProof : Nat := 19
abbrev n_impl_RangeProof : Nat := 20
abbrev n_impl_TreeDepth : Nat := 21
abbrev n_impl_ClashOf : Nat := 22
abbrev n_spec_SameKeys : Nat := 23
abbrev n_spec_ValidClash : Nat := 24
abbrev n_spec_l00In : Nat := 25
abbrev n_spec_l03Told : Nat := 26
abbrev n_impl_isLeaves : Nat := 27
abbrev n_impl_size_impl_Key : Nat := 28
abbrev n_impl_CheckRange_1 : Nat := 29
abbrev n_ptr_impl_queue_take : Nat := 30
abbrev n_impl_leftOf : Nat := 31
abbrev n_impl_NodeKey : Nat := 32
abbrev n_laws_eqKey : Nat := 33
abbrev n_spec_l03Ones : Nat := 34
abbrev n_spec_l03Of : Nat := 35
abbrev n_spec_l03Grown : Nat := 36
abbrev n_impl_within : Nat := 37
abbrev n_math_bits_OnesCount64 : Nat := 38
abbrev n_impl_keyOfPeaks : Nat := 39
abbrev n_impl_CheckGrowth_1 : Nat := 40
abbrev n_math_bits_Len64 : Nat := 41
abbrev n_impl_CheckGrowth_2 : Nat := 42
abbrev n_spec_l00From : Nat := 43
abbrev n_ptr_spec_l00Src_pick : Nat := 44
abbrev n_spec_l01Any : Nat := 45
abbrev n_impl_listKey : Nat := 46
abbrev n_impl_peaks : Nat := 47
abbrev n_impl_rangeProof : Nat := 48
abbrev n_impl_size_bool : Nat := 49
abbrev n_impl_sides : Nat := 50
abbrev n_slices_Equal_sl_impl_Key_impl_Key : Nat := 51
abbrev n_impl_clash : Nat := 52
abbrev n_spec_l03Lists : Nat := 53
abbrev n_spec_l03Node : Nat := 54
abbrev n_spec_l03Half : Nat := 55
abbrev n_impl_PairKey : Nat := 56
abbrev n_spec_l00Min : Nat := 57
abbrev n_ptr_spec_l00Src_next : Nat := 58
abbrev n_spec_l01Hash : Nat := 59
abbrev n_spec_l01Data : Nat := 60
abbrev n_impl_hash : Nat := 61
abbrev n_math_bits_Len : Nat := 62
abbrev n_slices_Reverse_sl_bool_bool : Nat := 63
abbrev n_spec_l01Pair : Nat := 64
abbrev n_slices_Concat_sl_byte_byte : Nat := 65
abbrev n_spec_l01End : Nat := 66
abbrev n_spec_l01Start : Nat := 67
abbrev n_ptr_spec_l00Src_one : Nat := 68
abbrev n_impl_blocks : Nat := 69
abbrev n_impl_padding : Nat := 70
abbrev n_impl_size_byte : Nat := 71
abbrev n_impl_keyOf : Nat := 72
abbrev n_impl_mixed : Nat := 73
abbrev n_impl_StartState : Nat := 74
abbrev n_math_bits_Len32 : Nat := 75
abbrev n_slices_Grow_sl_byte_byte : Nat := 76
abbrev n_spec_l01Padded : Nat := 77
abbrev n_spec_l01Mix : Nat := 78
abbrev n_spec_l01Block : Nat := 79
abbrev n_impl_appendLittle : Nat := 80
abbrev n_impl_MixBlock : Nat := 81
abbrev n_spec_l01Turn : Nat := 82
abbrev n_impl_littleNumber : Nat := 83
abbrev n_math_bits_RotateLeft32 : Nat := 84
abbrev ty_x : Nat := 0
abbrev ty_func : Nat := 1
abbrev ty_int64 : Nat := 2
abbrev ty_int : Nat := 3
abbrev ty_bool : Nat := 4
abbrev ty_uint8 : Nat := 5
abbrev ty_internal_abi_BoundsErrorCode : Nat := 6
abbrev ty_struct_x_int64_y_int_signed_bool_code_abi_BoundsErrorCode : Nat := 7
abbrev ty_runtime_boundsError : Nat := 8
abbrev ty_string : Nat := 9
abbrev ty_runtime_errorString : Nat := 10
abbrev ty_runtime_plainError : Nat := 11
abbrev ty_uintptr : Nat := 12
abbrev ty_struct_msg_string_addr_uintptr : Nat := 13
abbrev ty_runtime_errorAddressString : Nat := 14
abbrev ty_ptr_runtime_TypeAssertionError : Nat := 15
abbrev ty_ptr_runtime_PanicNilError : Nat := 16
abbrev ty_ptr_abi_Type : Nat := 17
abbrev ty_struct_typ_ptr_abi_Type : Nat := 18
abbrev ty_internal_runtime_maps_unhashableTypeError : Nat := 19
abbrev ty_interface : Nat := 20
abbrev ty_int32 : Nat := 21
abbrev ty_arr32_uint8 : Nat := 22
abbrev ty_sl_arr32_uint8 : Nat := 23
abbrev ty_func_sl_arr32_uint8_int_int : Nat := 24
abbrev ty_bool_int64 : Nat := 25
abbrev ty_func_impl_Key_int64_int64_sl_impl_Key_sl_impl_Key_bool_int64 : Nat := 26
abbrev ty_impl_Key : Nat := 27
abbrev ty_func_arr32_uint8_impl_Key : Nat := 28
abbrev ty_sl_impl_Key : Nat := 29
abbrev ty_func_sl_arr32_uint8_sl_impl_Key : Nat := 30
abbrev ty_func_sl_impl_Key_sl_impl_Key_bool : Nat := 31
abbrev ty_func_arr32_uint8_int64_int64_sl_arr32_uint8_sl_arr32_uint8_bool : Nat := 32
abbrev ty_func_impl_Key_int64_impl_Key_int64_sl_impl_Key_bool_int64 : Nat := 33
abbrev ty_func_arr32_uint8_int64_arr32_uint8_int64_sl_arr32_uint8_bool : Nat := 34
abbrev ty_sl_uint8 : Nat := 35
abbrev ty_func_sl_uint8_sl_uint8_bool : Nat := 36
abbrev ty_func_sl_uint8_int64_sl_impl_Key : Nat := 37
abbrev ty_func_sl_uint8_int64_int64_int64 : Nat := 38
abbrev ty_impl_Key_int64 : Nat := 39
abbrev ty_func_sl_impl_Key_impl_Key_int64 : Nat := 40
abbrev ty_sl_impl_Key_int64 : Nat := 41
abbrev ty_func_sl_impl_Key_int64_sl_impl_Key_int64 : Nat := 42
abbrev ty_func_sl_impl_Key_int64_int64_sl_impl_Key_int64 : Nat := 43
abbrev ty_int64_int64 : Nat := 44
abbrev ty_func_int64_int64_int64_int64 : Nat := 45
abbrev ty_struct_FirstLeft_impl_Key_FirstRight_impl_Key_SecondLeft_impl_Key_SecondRight_impl_Key : Nat := 46
abbrev ty_impl_Clash : Nat := 47
abbrev ty_impl_Clash_int64 : Nat := 48
abbrev ty_func_sl_impl_Key_sl_impl_Key_impl_Clash_int64 : Nat := 49
abbrev ty_func_impl_Clash_bool : Nat := 50
abbrev ty_func_int64_int64_int64_bool : Nat := 51
abbrev ty_impl_Key_sl_impl_Key_bool : Nat := 52
abbrev ty_func_int64_int64_sl_impl_Key_sl_impl_Key_impl_Key_sl_impl_Key_bool : Nat := 53
abbrev ty_func_int64_bool : Nat := 54
abbrev ty_func_sl_impl_Key_int64 : Nat := 55
abbrev ty_ptr_impl_queue : Nat := 56
abbrev ty_struct_keys_sl_impl_Key_ok_bool : Nat := 57
abbrev ty_impl_queue : Nat := 58
abbrev ty_func_int64_int64_impl_Key : Nat := 59
abbrev ty_func_impl_Key : Nat := 60
abbrev ty_func_int64_int64 : Nat := 61
abbrev ty_func_impl_Key_impl_Key_impl_Key : Nat := 62
abbrev ty_func_impl_Key_impl_Key_bool : Nat := 63
abbrev ty_func_sl_impl_Key_impl_Key : Nat := 64
abbrev ty_impl_Key_sl_impl_Key_sl_impl_Key_bool : Nat := 65
abbrev ty_func_int64_int64_sl_impl_Key_sl_impl_Key_impl_Key_sl_impl_Key_sl_impl_Key_bool : Nat := 66
abbrev ty_func_uint64_int : Nat := 67
abbrev ty_uint64 : Nat := 68
abbrev ty_func_int64_int64_bool : Nat := 69
abbrev ty_ptr_spec_l00Src : Nat := 70
abbrev ty_func_sl_uint8_ptr_spec_l00Src : Nat := 71
abbrev ty_func_ptr_spec_l00Src_impl_Key : Nat := 72
abbrev ty_func_sl_impl_Key_sl_impl_Key : Nat := 73
abbrev ty_func_sl_impl_Key_int64_int64_sl_impl_Key : Nat := 74
abbrev ty_func_sl_bool_int64 : Nat := 75
abbrev ty_sl_bool : Nat := 76
abbrev ty_func_int64_int64_sl_bool : Nat := 77
abbrev ty_func_sl_impl_Key_sl_impl_Key_impl_Clash : Nat := 78
abbrev ty_func_uint8_impl_Key_impl_Key_impl_Key : Nat := 79
abbrev ty_func_int64_int64_int64 : Nat := 80
abbrev ty_uint : Nat := 81
abbrev ty_struct_code_sl_uint8_at_int_seed_uint64 : Nat := 82
abbrev ty_spec_l00Src : Nat := 83
abbrev ty_func_int64 : Nat := 84
abbrev ty_func_uint8_sl_uint8_impl_Key : Nat := 85
abbrev ty_func_ptr_spec_l00Src_int64_sl_uint8 : Nat := 86
abbrev ty_func_uint_int : Nat := 87
abbrev ty_func_sl_bool : Nat := 88
abbrev ty_func_sl_uint8_sl_uint8 : Nat := 89
abbrev ty_func_arr8_uint32_sl_uint8_int64_impl_Key : Nat := 90
abbrev ty_uint32 : Nat := 91
abbrev ty_arr8_uint32 : Nat := 92
abbrev ty_func_uint8_arr8_uint32 : Nat := 93
abbrev ty_sl_arr32_uint8_sl_uint8 : Nat := 94
abbrev ty_func_sl_uint8_sl_arr32_uint8_sl_uint8 : Nat := 95
abbrev ty_func_int64_sl_uint8 : Nat := 96
abbrev ty_func_sl_uint8_int64 : Nat := 97
abbrev ty_func_arr8_uint32_impl_Key : Nat := 98
abbrev ty_func_arr8_uint32_sl_arr32_uint8_arr8_uint32 : Nat := 99
abbrev ty_func_uint32_int : Nat := 100
abbrev ty_sl_sl_uint8 : Nat := 101
abbrev ty_func_sl_uint8_int_sl_uint8 : Nat := 102
abbrev ty_func_sl_uint8_int64_sl_uint8 : Nat := 103
abbrev ty_func_arr8_uint32_arr32_uint8_arr8_uint32 : Nat := 104
abbrev ty_func_sl_uint8_int_arr32_uint8 : Nat := 105
abbrev ty_func_sl_uint8_uint64_int_sl_uint8 : Nat := 106
abbrev ty_func_uint32_uint_uint32 : Nat := 107
abbrev ty_func_sl_uint8_uint64 : Nat := 108
abbrev ty_func_uint32_int_uint32 : Nat := 109
abbrev ty_func_string : Nat := 110
abbrev ty_struct_interface_ptr_abi_Type_concrete_ptr_abi_Type_asserted_ptr_abi_Type_missingMethod_string : Nat := 111
abbrev ty_runtime_TypeAssertionError : Nat := 112
abbrev ty_arr0_ptr_runtime_PanicNilError : Nat := 113
abbrev ty_struct_arr0_ptr_runtime_PanicNilError : Nat := 114
abbrev ty_runtime_PanicNilError : Nat := 115
abbrev ty_func_int : Nat := 116
abbrev ty_internal_abi_TFlag : Nat := 117
abbrev ty_internal_abi_Kind : Nat := 118
abbrev ty_func_unsafe_Pointer_unsafe_Pointer_bool : Nat := 119
abbrev ty_ptr_uint8 : Nat := 120
abbrev ty_internal_abi_NameOff : Nat := 121
abbrev ty_internal_abi_TypeOff : Nat := 122
abbrev ty_struct_Size_uintptr_PtrBytes_uintptr_Hash_uint32_TFlag_abi_TFlag_Align_uint8_FieldAlign_uint8_Kind_abi_Kind_Equal_func_unsafe_Pointer_unsafe_Pointer_bool_GCData_ptr_uint8_Str_abi_NameOff_PtrToThis_abi_TypeOff : Nat := 123
abbrev ty_internal_abi_Type : Nat := 124
abbrev ty_unsafe_Pointer : Nat := 125

/-- laws.FnExactCheckRange (3) -/
def laws_FnExactCheckRange (C : Comb) (x0 : Array Value) (x1 : Int) (x2 : Int) (x3 : Sl) (x4 : Sl) : C.St :=
  C.new ty_arr32_uint8 (.agg x0) fun b5 =>
  C.call n_laws_szKeyS [(.slice x3.a x3.n x3.c), (.int .i64 1048576)] [(.int .i64)] fun r20 =>
  cond (decide (r20 < 0)) (
    C.ret (.bool true)
  ) (
    C.call n_laws_szKeyS [(.slice x4.a x4.n x4.c), (.int .i64 r20)] [(.int .i64)] fun r25 =>
    cond (decide (r25 < 0)) (
      C.ret (.bool true)
    ) (
      C.ld .agg 32 (Addr.mk b5 0 none) fun v29 =>
      C.call n_laws_toKey [(.agg v29)] [.agg] fun r30 =>
      C.call n_laws_toKeyS [(.slice x3.a x3.n x3.c)] [.slice] fun r34 =>
      C.call n_laws_toKeyS [(.slice x4.a x4.n x4.c)] [.slice] fun r36 =>
      C.call n_spec_CheckRange [(.agg r30), (.int .i64 x1), (.int .i64 x2), (.slice r34.a r34.n r34.c), (.slice r36.a r36.n r36.c)] [.bool, (.int .i64)] fun r37 =>
      C.call n_laws_toKeyS [(.slice x3.a x3.n x3.c)] [.slice] fun r41 =>
      C.call n_laws_toKeyS [(.slice x4.a x4.n x4.c)] [.slice] fun r43 =>
      C.ld .agg 32 (Addr.mk b5 0 none) fun v45 =>
      C.call n_laws_toKey [(.agg v45)] [.agg] fun r46 =>
      C.call n_impl_CheckRange [(.agg r46), (.int .i64 x1), (.int .i64 x2), (.slice r41.a r41.n r41.c), (.slice r43.a r43.n r43.c)] [.bool, (.int .i64)] fun r51 =>
      C.join (TL []) (embL []) (fun s15 => C.any fun _ =>
          C.call n_laws_toKeyS [(.slice x3.a x3.n x3.c)] [.slice] fun r64 =>
          C.call n_laws_eqKeyS [(.slice r41.a r41.n r41.c), (.slice r64.a r64.n r64.c)] [.bool] fun r65 =>
          cond (!r65) (
            C.ret (.bool false)
          ) (
            C.call n_laws_toKeyS [(.slice x4.a x4.n x4.c)] [.slice] fun r69 =>
            C.call n_laws_eqKeyS [(.slice r43.a r43.n r43.c), (.slice r69.a r69.n r69.c)] [.bool] fun r70 =>
            cond (!r70) (
              C.ret (.bool false)
            ) (
              C.ret (.bool true)
            )
          )
        ) fun jt =>
      C.pur (eqB .neq ty_bool (.tmp 54) (.tmp 55) (.bool r51.1) (.bool r37.1)) .bool fun y56 =>
      cond y56 (
        C.ret (.bool false)
      ) (
        cond (r51.2 != r37.2) (
          C.ret (.bool false)
        ) (
          jt []
        )
      )
    )
  )
theorem laws_FnExactCheckRange_eq (C : Comb) (x0 : Array Value) (x1 : Int) (x2 : Int) (x3 : Sl) (x4 : Sl) : fT C Try.prog { loop := [], join := [(183, [])], anyOrder := [], pure := [] } n_laws_FnExactCheckRange [(.agg x0), (.int .i64 x1), (.int .i64 x2), (.slice x3.a x3.n x3.c), (.slice x4.a x4.n x4.c)] = laws_FnExactCheckRange C x0 x1 x2 x3 x4 := by kernel_rfl
theorem laws_FnExactCheckRange_calls {R : Value → World → Prop} {w : World} (x0 : Array Value) (x1 : Int) (x2 : Int) (x3 : Sl) (x4 : Sl) (h : (laws_FnExactCheckRange (real Try.prog R) x0 x1 x2 x3 x4 : World → Prop) w) :
    Calls Try.prog n_laws_FnExactCheckRange [(.agg x0), (.int .i64 x1), (.int .i64 x2), (.slice x3.a x3.n x3.c), (.slice x4.a x4.n x4.c)].toArray w fun e w' => ∃ v, e = .returned v ∧ R v w' := fT_sound mixed { loop := [], join := [(183, [])], anyOrder := [], pure := [] } (by rw [laws_FnExactCheckRange_eq]; exact h)

/-- laws.FnExactCheckGrowth (4) -/
def laws_FnExactCheckGrowth (C : Comb) (x0 : Array Value) (x1 : Int) (x2 : Array Value) (x3 : Int) (x4 : Sl) : C.St :=
  C.new ty_arr32_uint8 (.agg x0) fun b5 =>
  C.new ty_arr32_uint8 (.agg x2) fun b7 =>
  C.call n_laws_szKeyS [(.slice x4.a x4.n x4.c), (.int .i64 1048576)] [(.int .i64)] fun r19 =>
  cond (decide (r19 < 0)) (
    C.ret (.bool true)
  ) (
    C.join (TL [.bool, (.int .i64)]) (embL [.bool, (.int .i64)]) (fun s10 => C.any fun _ =>
        C.call n_laws_toKeyS [(.slice x4.a x4.n x4.c)] [.slice] fun r35 =>
        C.join (TL [.bool, (.int .i64)]) (embL [.bool, (.int .i64)]) (fun s17 => C.any fun _ =>
            C.join (TL []) (embL []) (fun s19 => C.any fun _ =>
                C.call n_laws_toKeyS [(.slice x4.a x4.n x4.c)] [.slice] fun r57 =>
                C.call n_laws_eqKeyS [(.slice r35.a r35.n r35.c), (.slice r57.a r57.n r57.c)] [.bool] fun r58 =>
                cond (!r58) (
                  C.ret (.bool false)
                ) (
                  C.ret (.bool true)
                )
              ) fun jt =>
            C.pur (eqB .neq ty_bool (.tmp 47) (.tmp 48) (.bool s17.1) (.bool s10.1)) .bool fun y49 =>
            cond y49 (
              C.ret (.bool false)
            ) (
              cond (s17.2 != s10.2) (
                C.ret (.bool false)
              ) (
                jt []
              )
            )
          ) fun jt =>
        C.draw <|
        C.ld .agg 32 (Addr.mk b5 0 none) fun v37 =>
        C.ld .agg 32 (Addr.mk b7 0 none) fun v40 =>
        C.call n_laws_toKey [(.agg v37)] [.agg] fun r38 =>
        C.chk [⟨3, 32, (Addr.mk b7 0 none), .agg, v40⟩] <|
        C.call n_laws_toKey [(.agg v40)] [.agg] fun r41 =>
        C.call n_impl_CheckGrowth [(.agg r38), (.int .i64 x1), (.agg r41), (.int .i64 x3), (.slice r35.a r35.n r35.c)] [.bool, (.int .i64)] fun r44 =>
        jt [(.bool r44.1), (.int .i64 r44.2)]
      ) fun jt =>
    C.draw <|
    C.ld .agg 32 (Addr.mk b5 0 none) fun v23 =>
    C.ld .agg 32 (Addr.mk b7 0 none) fun v26 =>
    C.call n_laws_toKey [(.agg v23)] [.agg] fun r24 =>
    C.chk [⟨3, 32, (Addr.mk b7 0 none), .agg, v26⟩] <|
    C.call n_laws_toKey [(.agg v26)] [.agg] fun r27 =>
    C.call n_laws_toKeyS [(.slice x4.a x4.n x4.c)] [.slice] fun r30 =>
    C.call n_spec_CheckGrowth [(.agg r24), (.int .i64 x1), (.agg r27), (.int .i64 x3), (.slice r30.a r30.n r30.c)] [.bool, (.int .i64)] fun r31 =>
    jt [(.bool r31.1), (.int .i64 r31.2)]
  )
theorem laws_FnExactCheckGrowth_eq (C : Comb) (x0 : Array Value) (x1 : Int) (x2 : Array Value) (x3 : Int) (x4 : Sl) : fT C Try.prog { loop := [], join := [(16, [(12, .bool), (13, (.int .i64))]), (22, [(15, .bool), (16, (.int .i64))]), (162, [])], anyOrder := [5, 7], pure := [] } n_laws_FnExactCheckGrowth [(.agg x0), (.int .i64 x1), (.agg x2), (.int .i64 x3), (.slice x4.a x4.n x4.c)] = laws_FnExactCheckGrowth C x0 x1 x2 x3 x4 := by kernel_rfl
theorem laws_FnExactCheckGrowth_calls {R : Value → World → Prop} {w : World} (x0 : Array Value) (x1 : Int) (x2 : Array Value) (x3 : Int) (x4 : Sl) (h : (laws_FnExactCheckGrowth (real Try.prog R) x0 x1 x2 x3 x4 : World → Prop) w) :
    Calls Try.prog n_laws_FnExactCheckGrowth [(.agg x0), (.int .i64 x1), (.agg x2), (.int .i64 x3), (.slice x4.a x4.n x4.c)].toArray w fun e w' => ∃ v, e = .returned v ∧ R v w' := fT_sound mixed { loop := [], join := [(16, [(12, .bool), (13, (.int .i64))]), (22, [(15, .bool), (16, (.int .i64))]), (162, [])], anyOrder := [5, 7], pure := [] } (by rw [laws_FnExactCheckGrowth_eq]; exact h)

/-- laws.FnGrowth (5) -/
def laws_FnGrowth (C : Comb) (x0 : Sl) (x1 : Sl) : C.St :=
  C.call n_laws_a2Long [(.slice x0.a x0.n x0.c), (.slice x1.a x1.n x1.c)] [.bool] fun r25 =>
  cond r25 (
    C.ret (.bool true)
  ) (
    C.call n_spec_A2Keys [(.slice x0.a x0.n x0.c), (.int .i64 10)] [.slice] fun r27 =>
    C.call n_laws_a2At [(.slice x1.a x1.n x1.c), (.int .i64 0), (.int .i64 256)] [(.int .i64)] fun r29 =>
    C.pur (Instr.build ty_impl_Key #[(0, (.int .u8 (IntKind.wrap .u8 (r29))))]) .agg fun y31 =>
    C.sem (Instr.buildSlice ty_sl_impl_Key 1 #[(0, (.agg y31))]) .slice fun y32 =>
    C.sem (Builtin.append_ #[ty_sl_impl_Key, ty_sl_impl_Key] ty_sl_impl_Key #[(.slice r27.a r27.n r27.c), (.slice y32.a y32.n y32.c)]) .slice fun y33 =>
    C.call n_laws_a2At [(.slice x1.a x1.n x1.c), (.int .i64 1), (.int .i64 (y33.n : Int))] [(.int .i64)] fun r38 =>
    C.sl y33.a y33.n y33.c 32 none (some (IntKind.wrap .i64 (1 + r38))) none fun y43 =>
    C.call n_impl_ListKey [(.slice y43.a y43.n y43.c)] [.agg, (.int .i64)] fun r44 =>
    C.new ty_impl_Key (.agg (Array.replicate 32 (.int .u8 0))) fun b8 =>
    C.st 32 (Addr.mk b8 0 none) (.agg r44.1) <|
    C.call n_impl_ListKey [(.slice y33.a y33.n y33.c)] [.agg, (.int .i64)] fun r49 =>
    C.new ty_impl_Key (.agg (Array.replicate 32 (.int .u8 0))) fun b10 =>
    C.st 32 (Addr.mk b10 0 none) (.agg r49.1) <|
    C.call n_impl_GrowthProof [(.slice y33.a y33.n y33.c), (.int .i64 (IntKind.wrap .i64 (1 + r38)))] [.slice, (.int .i64)] fun r55 =>
    C.ld .agg 32 (Addr.mk b8 0 none) fun v59 =>
    C.ld .agg 32 (Addr.mk b10 0 none) fun v61 =>
    C.call n_impl_CheckGrowth [(.agg v59), (.int .i64 (IntKind.wrap .i64 (1 + r38))), (.agg v61), (.int .i64 (y33.n : Int)), (.slice r55.1.a r55.1.n r55.1.c)] [.bool, (.int .i64)] fun r64 =>
    C.ld .agg 32 (Addr.mk b8 0 none) fun v67 =>
    C.new ty_impl_Key (.agg (Array.replicate 32 (.int .u8 0))) fun b16 =>
    C.st 32 (Addr.mk b16 0 none) (.agg v67) <|
    C.call n_laws_a2At [(.slice x1.a x1.n x1.c), (.int .i64 2), (.int .i64 32)] [(.int .i64)] fun r69 =>
    C.ix (some (Addr.mk b16 0 none)) 32 1 r69 fun p70 =>
    C.ld (.int .u8) 1 p70 fun v71 =>
    C.ix (some (Addr.mk b16 0 none)) 32 1 r69 fun p73 =>
    C.st 1 p73 (.int .u8 (bitsI .xor .u8 v71 1)) <|
    C.ld .agg 32 (Addr.mk b16 0 none) fun v75 =>
    C.ld .agg 32 (Addr.mk b10 0 none) fun v77 =>
    C.call n_impl_CheckGrowth [(.agg v75), (.int .i64 (IntKind.wrap .i64 (1 + r38))), (.agg v77), (.int .i64 (y33.n : Int)), (.slice r55.1.a r55.1.n r55.1.c)] [.bool, (.int .i64)] fun r80 =>
    C.join (TL [.bool, (.int .i64)]) (embL [.bool, (.int .i64)]) (fun s43 => C.any fun _ =>
        C.ld .agg 32 (Addr.mk b8 0 none) fun v98 =>
        C.ld .agg 32 (Addr.mk b10 0 none) fun v101 =>
        C.call n_impl_CheckGrowth [(.agg v98), (.int .i64 (IntKind.wrap .i64 ((y33.n : Int) + 1))), (.agg v101), (.int .i64 (y33.n : Int)), (.slice r55.1.a r55.1.n r55.1.c)] [.bool, (.int .i64)] fun r104 =>
        cond (r44.2 == 0) (
          cond (r49.2 == 0) (
            cond (r55.2 == 0) (
              cond (r64.2 == 0) (
                cond r64.1 (
                  cond (r80.2 == 0) (
                    cond (!r80.1) (
                      cond (s43.2 == 0) (
                        cond (!s43.1) (
                          C.ret (.bool (r104.2 == 2))
                        ) (
                          C.ret (.bool false)
                        )
                      ) (
                        C.ret (.bool false)
                      )
                    ) (
                      C.ret (.bool false)
                    )
                  ) (
                    C.ret (.bool false)
                  )
                ) (
                  C.ret (.bool false)
                )
              ) (
                C.ret (.bool false)
              )
            ) (
              C.ret (.bool false)
            )
          ) (
            C.ret (.bool false)
          )
        ) (
          C.ret (.bool false)
        )
      ) fun jt =>
    C.draw <|
    C.ld .agg 32 (Addr.mk b8 0 none) fun v84 =>
    C.ld .agg 32 (Addr.mk b10 0 none) fun v86 =>
    C.ld .agg 32 (Addr.mk b8 0 none) fun v91 =>
    C.all [
      (C.sem (Instr.buildSlice ty_sl_impl_Key 0 #[]) .slice fun y88 =>
       C.chk [⟨7, 32, (Addr.mk b8 0 none), .agg, v91⟩, ⟨2, 32, (Addr.mk b10 0 none), .agg, v86⟩, ⟨0, 32, (Addr.mk b8 0 none), .agg, v84⟩] <|
       C.all [
         (C.sem (Builtin.append_ #[ty_sl_impl_Key, ty_sl_impl_Key] ty_sl_impl_Key #[(.slice y88.a y88.n y88.c), (.slice r55.1.a r55.1.n r55.1.c)]) .slice fun y90 =>
          C.chk [⟨7, 32, (Addr.mk b8 0 none), .agg, v91⟩, ⟨2, 32, (Addr.mk b10 0 none), .agg, v86⟩, ⟨0, 32, (Addr.mk b8 0 none), .agg, v84⟩] <|
          C.sem (Instr.buildSlice ty_sl_impl_Key 1 #[(0, (.agg v91))]) .slice fun y92 =>
          C.chk [⟨2, 32, (Addr.mk b10 0 none), .agg, v86⟩, ⟨0, 32, (Addr.mk b8 0 none), .agg, v84⟩] <|
          C.sem (Builtin.append_ #[ty_sl_impl_Key, ty_sl_impl_Key] ty_sl_impl_Key #[(.slice y90.a y90.n y90.c), (.slice y92.a y92.n y92.c)]) .slice fun y93 =>
          C.chk [⟨2, 32, (Addr.mk b10 0 none), .agg, v86⟩, ⟨0, 32, (Addr.mk b8 0 none), .agg, v84⟩] <|
          C.call n_impl_CheckGrowth [(.agg v84), (.int .i64 (IntKind.wrap .i64 (1 + r38))), (.agg v86), (.int .i64 (y33.n : Int)), (.slice y93.a y93.n y93.c)] [.bool, (.int .i64)] fun r94 =>
          jt [(.bool r94.1), (.int .i64 r94.2)]),
         (C.sem (Instr.buildSlice ty_sl_impl_Key 1 #[(0, (.agg v91))]) .slice fun y92 =>
          C.chk [⟨2, 32, (Addr.mk b10 0 none), .agg, v86⟩, ⟨0, 32, (Addr.mk b8 0 none), .agg, v84⟩] <|
          C.sem (Builtin.append_ #[ty_sl_impl_Key, ty_sl_impl_Key] ty_sl_impl_Key #[(.slice y88.a y88.n y88.c), (.slice r55.1.a r55.1.n r55.1.c)]) .slice fun y90 =>
          C.chk [⟨2, 32, (Addr.mk b10 0 none), .agg, v86⟩, ⟨0, 32, (Addr.mk b8 0 none), .agg, v84⟩] <|
          C.sem (Builtin.append_ #[ty_sl_impl_Key, ty_sl_impl_Key] ty_sl_impl_Key #[(.slice y90.a y90.n y90.c), (.slice y92.a y92.n y92.c)]) .slice fun y93 =>
          C.chk [⟨2, 32, (Addr.mk b10 0 none), .agg, v86⟩, ⟨0, 32, (Addr.mk b8 0 none), .agg, v84⟩] <|
          C.call n_impl_CheckGrowth [(.agg v84), (.int .i64 (IntKind.wrap .i64 (1 + r38))), (.agg v86), (.int .i64 (y33.n : Int)), (.slice y93.a y93.n y93.c)] [.bool, (.int .i64)] fun r94 =>
          jt [(.bool r94.1), (.int .i64 r94.2)])]),
      (C.sem (Instr.buildSlice ty_sl_impl_Key 1 #[(0, (.agg v91))]) .slice fun y92 =>
       C.chk [⟨2, 32, (Addr.mk b10 0 none), .agg, v86⟩, ⟨0, 32, (Addr.mk b8 0 none), .agg, v84⟩] <|
       C.sem (Instr.buildSlice ty_sl_impl_Key 0 #[]) .slice fun y88 =>
       C.chk [⟨2, 32, (Addr.mk b10 0 none), .agg, v86⟩, ⟨0, 32, (Addr.mk b8 0 none), .agg, v84⟩] <|
       C.sem (Builtin.append_ #[ty_sl_impl_Key, ty_sl_impl_Key] ty_sl_impl_Key #[(.slice y88.a y88.n y88.c), (.slice r55.1.a r55.1.n r55.1.c)]) .slice fun y90 =>
       C.chk [⟨2, 32, (Addr.mk b10 0 none), .agg, v86⟩, ⟨0, 32, (Addr.mk b8 0 none), .agg, v84⟩] <|
       C.sem (Builtin.append_ #[ty_sl_impl_Key, ty_sl_impl_Key] ty_sl_impl_Key #[(.slice y90.a y90.n y90.c), (.slice y92.a y92.n y92.c)]) .slice fun y93 =>
       C.chk [⟨2, 32, (Addr.mk b10 0 none), .agg, v86⟩, ⟨0, 32, (Addr.mk b8 0 none), .agg, v84⟩] <|
       C.call n_impl_CheckGrowth [(.agg v84), (.int .i64 (IntKind.wrap .i64 (1 + r38))), (.agg v86), (.int .i64 (y33.n : Int)), (.slice y93.a y93.n y93.c)] [.bool, (.int .i64)] fun r94 =>
       jt [(.bool r94.1), (.int .i64 r94.2)])]
  )
theorem laws_FnGrowth_eq (C : Comb) (x0 : Sl) (x1 : Sl) : fT C Try.prog { loop := [], join := [(40, [(19, .bool), (20, (.int .i64))])], anyOrder := [13], pure := [] } n_laws_FnGrowth [(.slice x0.a x0.n x0.c), (.slice x1.a x1.n x1.c)] = laws_FnGrowth C x0 x1 := by kernel_rfl
theorem laws_FnGrowth_calls {R : Value → World → Prop} {w : World} (x0 : Sl) (x1 : Sl) (h : (laws_FnGrowth (real Try.prog R) x0 x1 : World → Prop) w) :
    Calls Try.prog n_laws_FnGrowth [(.slice x0.a x0.n x0.c), (.slice x1.a x1.n x1.c)].toArray w fun e w' => ∃ v, e = .returned v ∧ R v w' := fT_sound mixed { loop := [], join := [(40, [(19, .bool), (20, (.int .i64))])], anyOrder := [13], pure := [] } (by rw [laws_FnGrowth_eq]; exact h)

/-- laws.FnRangeProofs (6) -/
def laws_FnRangeProofs (C : Comb) (x0 : Sl) (x1 : Sl) : C.St :=
  C.call n_laws_a2Long [(.slice x0.a x0.n x0.c), (.slice x1.a x1.n x1.c)] [.bool] fun r32 =>
  cond r32 (
    C.ret (.bool true)
  ) (
    C.call n_spec_A2Keys [(.slice x0.a x0.n x0.c), (.int .i64 10)] [.slice] fun r34 =>
    C.call n_laws_a2At [(.slice x1.a x1.n x1.c), (.int .i64 0), (.int .i64 256)] [(.int .i64)] fun r36 =>
    C.pur (Instr.build ty_impl_Key #[(0, (.int .u8 (IntKind.wrap .u8 (r36))))]) .agg fun y38 =>
    C.sem (Instr.buildSlice ty_sl_impl_Key 1 #[(0, (.agg y38))]) .slice fun y39 =>
    C.sem (Builtin.append_ #[ty_sl_impl_Key, ty_sl_impl_Key] ty_sl_impl_Key #[(.slice r34.a r34.n r34.c), (.slice y39.a y39.n y39.c)]) .slice fun y40 =>
    C.call n_impl_ListKey [(.slice y40.a y40.n y40.c)] [.agg, (.int .i64)] fun r45 =>
    C.new ty_impl_Key (.agg (Array.replicate 32 (.int .u8 0))) fun b7 =>
    C.st 32 (Addr.mk b7 0 none) (.agg r45.1) <|
    C.call n_laws_a2At [(.slice x1.a x1.n x1.c), (.int .i64 1), (.int .i64 (y40.n : Int))] [(.int .i64)] fun r50 =>
    C.call n_laws_a2At [(.slice x1.a x1.n x1.c), (.int .i64 2), (.int .i64 (IntKind.wrap .i64 ((y40.n : Int) - r50)))] [(.int .i64)] fun r57 =>
    C.call n_impl_RangeProof [(.slice y40.a y40.n y40.c), (.int .i64 r50), (.int .i64 (IntKind.wrap .i64 ((IntKind.wrap .i64 (r50 + 1)) + r57)))] [.slice, (.int .i64)] fun r63 =>
    C.join (TL [.bool, (.int .i64)]) (embL [.bool, (.int .i64)]) (fun s15 => C.any fun _ =>
        C.call n_impl_RangeProof [(.slice y40.a y40.n y40.c), (.int .i64 0), (.int .i64 (y40.n : Int))] [.slice, (.int .i64)] fun r81 =>
        C.ld .agg 32 (Addr.mk b7 0 none) fun v85 =>
        C.call n_impl_CheckRange [(.agg v85), (.int .i64 (y40.n : Int)), (.int .i64 0), (.slice y40.a y40.n y40.c), (.slice r81.1.a r81.1.n r81.1.c)] [.bool, (.int .i64)] fun r89 =>
        C.join (TL [.bool, (.int .i64)]) (embL [.bool, (.int .i64)]) (fun s36 => C.any fun _ =>
            C.join (TL []) (embL []) (fun s37 => C.any fun _ =>
                C.call n_impl_RangeProof [(.slice y40.a y40.n y40.c), (.int .i64 r50), (.int .i64 (IntKind.wrap .i64 (r50 + 1)))] [.slice, (.int .i64)] fun r152 =>
                C.call n_impl_TreeDepth [(.int .i64 (y40.n : Int)), (.int .i64 r50)] [(.int .i64), (.int .i64)] fun r158 =>
                C.join (TL []) (embL []) (fun s40 => C.any fun _ =>
                    C.sem (Instr.buildSlice ty_sl_impl_Key 0 #[]) .slice fun y173 =>
                    C.sem (Builtin.append_ #[ty_sl_impl_Key, ty_sl_impl_Key] ty_sl_impl_Key #[(.slice y173.a y173.n y173.c), (.slice y40.a y40.n y40.c)]) .slice fun y175 =>
                    C.join (TL []) (embL []) (fun s50 => C.any fun _ =>
                        C.call n_impl_ListKey [(.slice y175.a y175.n y175.c)] [.agg, (.int .i64)] fun r191 =>
                        C.new ty_impl_Key (.agg (Array.replicate 32 (.int .u8 0))) fun b26 =>
                        C.st 32 (Addr.mk b26 0 none) (.agg r191.1) <|
                        C.call n_impl_ClashOf [(.slice y40.a y40.n y40.c), (.slice y175.a y175.n y175.c)] [.agg, (.int .i64)] fun r197 =>
                        C.new ty_impl_Clash (.agg (Array.replicate 128 (.int .u8 0))) fun b28 =>
                        C.st 128 (Addr.mk b28 0 none) (.agg r197.1) <|
                        cond (r191.2 != 0) (
                          C.ret (.bool false)
                        ) (
                          C.ld .agg 32 (Addr.mk b26 0 none) fun v203 =>
                          C.ld .agg 32 (Addr.mk b7 0 none) fun v204 =>
                          C.pur (eqB .neq ty_impl_Key (.tmp 203) (.tmp 204) (.agg v203) (.agg v204)) .bool fun y205 =>
                          cond y205 (
                            C.ret (.bool (r197.2 == 4))
                          ) (
                            C.call n_spec_SameKeys [(.slice y40.a y40.n y40.c), (.slice y175.a y175.n y175.c)] [.bool] fun r211 =>
                            cond r211 (
                              C.ret (.bool (r197.2 == 6))
                            ) (
                              cond (r197.2 == 0) (
                                C.ld .agg 128 (Addr.mk b28 0 none) fun v217 =>
                                C.call n_spec_ValidClash [(.agg v217)] [.bool] fun r218 =>
                                C.ret (.bool r218)
                              ) (
                                C.ret (.bool false)
                              )
                            )
                          )
                        )
                      ) fun jt =>
                    C.draw <|
                    C.ix y175.a y175.n 32 r50 fun p180 =>
                    C.ix y175.a y175.n 32 r50 fun p187 =>
                    C.call n_laws_a2At [(.slice x1.a x1.n x1.c), (.int .i64 3), (.int .i64 32)] [(.int .i64)] fun r179 =>
                    C.ix (some p180) 32 1 r179 fun p181 =>
                    C.ld (.int .u8) 1 p181 fun v182 =>
                    C.call n_laws_a2At [(.slice x1.a x1.n x1.c), (.int .i64 4), (.int .i64 256)] [(.int .i64)] fun r184 =>
                    C.chk [⟨6, 1, p181, (.int .u8), v182⟩] <|
                    C.ix (some p187) 32 1 r179 fun p188 =>
                    C.st 1 p188 (.int .u8 (bitsI .xor .u8 v182 (IntKind.wrap .u8 (r184)))) <|
                    jt []
                  ) fun jt =>
                cond (r152.2 != 0) (
                  C.ret (.bool false)
                ) (
                  cond (r158.2 != 0) (
                    C.ret (.bool false)
                  ) (
                    cond ((r152.1.n : Int) != r158.1) (
                      C.ret (.bool false)
                    ) (
                      jt []
                    )
                  )
                )
              ) fun jt =>
            cond (r45.2 != 0) (
              C.ret (.bool false)
            ) (
              cond (r63.2 != 0) (
                C.ret (.bool false)
              ) (
                cond (s15.2 != 0) (
                  C.ret (.bool false)
                ) (
                  cond (r81.2 != 0) (
                    C.ret (.bool false)
                  ) (
                    cond (r89.2 != 0) (
                      C.ret (.bool false)
                    ) (
                      cond (s36.2 != 0) (
                        C.ret (.bool false)
                      ) (
                        cond (!s15.1) (
                          C.ret (.bool false)
                        ) (
                          cond ((r81.1.n : Int) != 0) (
                            C.ret (.bool false)
                          ) (
                            cond (!r89.1) (
                              C.ret (.bool false)
                            ) (
                              cond s36.1 (
                                C.ret (.bool false)
                              ) (
                                jt []
                              )
                            )
                          )
                        )
                      )
                    )
                  )
                )
              )
            )
          ) fun jt =>
        C.draw <|
        C.ld .agg 32 (Addr.mk b7 0 none) fun v93 =>
        C.sl y40.a y40.n y40.c 32 (some r50) (some (IntKind.wrap .i64 ((IntKind.wrap .i64 (r50 + 1)) + r57))) none fun y99 =>
        C.ld .agg 32 (Addr.mk b7 0 none) fun v103 =>
        C.all [
          (C.sem (Instr.buildSlice ty_sl_impl_Key 0 #[]) .slice fun y100 =>
           C.chk [⟨10, 32, (Addr.mk b7 0 none), .agg, v103⟩, ⟨0, 32, (Addr.mk b7 0 none), .agg, v93⟩] <|
           C.all [
             (C.sem (Builtin.append_ #[ty_sl_impl_Key, ty_sl_impl_Key] ty_sl_impl_Key #[(.slice y100.a y100.n y100.c), (.slice r63.1.a r63.1.n r63.1.c)]) .slice fun y102 =>
              C.chk [⟨10, 32, (Addr.mk b7 0 none), .agg, v103⟩, ⟨0, 32, (Addr.mk b7 0 none), .agg, v93⟩] <|
              C.sem (Instr.buildSlice ty_sl_impl_Key 1 #[(0, (.agg v103))]) .slice fun y104 =>
              C.chk [⟨0, 32, (Addr.mk b7 0 none), .agg, v93⟩] <|
              C.sem (Builtin.append_ #[ty_sl_impl_Key, ty_sl_impl_Key] ty_sl_impl_Key #[(.slice y102.a y102.n y102.c), (.slice y104.a y104.n y104.c)]) .slice fun y105 =>
              C.chk [⟨0, 32, (Addr.mk b7 0 none), .agg, v93⟩] <|
              C.call n_impl_CheckRange [(.agg v93), (.int .i64 (y40.n : Int)), (.int .i64 r50), (.slice y99.a y99.n y99.c), (.slice y105.a y105.n y105.c)] [.bool, (.int .i64)] fun r106 =>
              jt [(.bool r106.1), (.int .i64 r106.2)]),
             (C.sem (Instr.buildSlice ty_sl_impl_Key 1 #[(0, (.agg v103))]) .slice fun y104 =>
              C.chk [⟨0, 32, (Addr.mk b7 0 none), .agg, v93⟩] <|
              C.sem (Builtin.append_ #[ty_sl_impl_Key, ty_sl_impl_Key] ty_sl_impl_Key #[(.slice y100.a y100.n y100.c), (.slice r63.1.a r63.1.n r63.1.c)]) .slice fun y102 =>
              C.chk [⟨0, 32, (Addr.mk b7 0 none), .agg, v93⟩] <|
              C.sem (Builtin.append_ #[ty_sl_impl_Key, ty_sl_impl_Key] ty_sl_impl_Key #[(.slice y102.a y102.n y102.c), (.slice y104.a y104.n y104.c)]) .slice fun y105 =>
              C.chk [⟨0, 32, (Addr.mk b7 0 none), .agg, v93⟩] <|
              C.call n_impl_CheckRange [(.agg v93), (.int .i64 (y40.n : Int)), (.int .i64 r50), (.slice y99.a y99.n y99.c), (.slice y105.a y105.n y105.c)] [.bool, (.int .i64)] fun r106 =>
              jt [(.bool r106.1), (.int .i64 r106.2)])]),
          (C.sem (Instr.buildSlice ty_sl_impl_Key 1 #[(0, (.agg v103))]) .slice fun y104 =>
           C.chk [⟨0, 32, (Addr.mk b7 0 none), .agg, v93⟩] <|
           C.sem (Instr.buildSlice ty_sl_impl_Key 0 #[]) .slice fun y100 =>
           C.chk [⟨0, 32, (Addr.mk b7 0 none), .agg, v93⟩] <|
           C.sem (Builtin.append_ #[ty_sl_impl_Key, ty_sl_impl_Key] ty_sl_impl_Key #[(.slice y100.a y100.n y100.c), (.slice r63.1.a r63.1.n r63.1.c)]) .slice fun y102 =>
           C.chk [⟨0, 32, (Addr.mk b7 0 none), .agg, v93⟩] <|
           C.sem (Builtin.append_ #[ty_sl_impl_Key, ty_sl_impl_Key] ty_sl_impl_Key #[(.slice y102.a y102.n y102.c), (.slice y104.a y104.n y104.c)]) .slice fun y105 =>
           C.chk [⟨0, 32, (Addr.mk b7 0 none), .agg, v93⟩] <|
           C.call n_impl_CheckRange [(.agg v93), (.int .i64 (y40.n : Int)), (.int .i64 r50), (.slice y99.a y99.n y99.c), (.slice y105.a y105.n y105.c)] [.bool, (.int .i64)] fun r106 =>
           jt [(.bool r106.1), (.int .i64 r106.2)])]
      ) fun jt =>
    C.draw <|
    C.ld .agg 32 (Addr.mk b7 0 none) fun v67 =>
    C.sl y40.a y40.n y40.c 32 (some r50) (some (IntKind.wrap .i64 ((IntKind.wrap .i64 (r50 + 1)) + r57))) none fun y73 =>
    C.call n_impl_CheckRange [(.agg v67), (.int .i64 (y40.n : Int)), (.int .i64 r50), (.slice y73.a y73.n y73.c), (.slice r63.1.a r63.1.n r63.1.c)] [.bool, (.int .i64)] fun r75 =>
    jt [(.bool r75.1), (.int .i64 r75.2)]
  )
theorem laws_FnRangeProofs_eq (C : Comb) (x0 : Sl) (x1 : Sl) : fT C Try.prog { loop := [], join := [(28, [(13, .bool), (14, (.int .i64))]), (37, [(19, .bool), (20, (.int .i64))]), (438, []), (516, []), (61, [])], anyOrder := [9, 12, 20], pure := [] } n_laws_FnRangeProofs [(.slice x0.a x0.n x0.c), (.slice x1.a x1.n x1.c)] = laws_FnRangeProofs C x0 x1 := by kernel_rfl
theorem laws_FnRangeProofs_calls {R : Value → World → Prop} {w : World} (x0 : Sl) (x1 : Sl) (h : (laws_FnRangeProofs (real Try.prog R) x0 x1 : World → Prop) w) :
    Calls Try.prog n_laws_FnRangeProofs [(.slice x0.a x0.n x0.c), (.slice x1.a x1.n x1.c)].toArray w fun e w' => ∃ v, e = .returned v ∧ R v w' := fT_sound mixed { loop := [], join := [(28, [(13, .bool), (14, (.int .i64))]), (37, [(19, .bool), (20, (.int .i64))]), (438, []), (516, []), (61, [])], anyOrder := [9, 12, 20], pure := [] } (by rw [laws_FnRangeProofs_eq]; exact h)

/-- laws.szKeyS (7) -/
def laws_szKeyS (C : Comb) (x0 : Sl) (x1 : Int) : C.St :=
  cond (decide ((IntKind.wrap .i64 (x1 - (x0.n : Int))) < 0)) (
    C.ret (.int .i64 (-1))
  ) (
    C.ret (.int .i64 (IntKind.wrap .i64 (x1 - (x0.n : Int))))
  )
theorem laws_szKeyS_eq (C : Comb) (x0 : Sl) (x1 : Int) : fT C Try.prog { loop := [], join := [], anyOrder := [], pure := [] } n_laws_szKeyS [(.slice x0.a x0.n x0.c), (.int .i64 x1)] = laws_szKeyS C x0 x1 := by kernel_rfl
theorem laws_szKeyS_calls {R : Value → World → Prop} {w : World} (x0 : Sl) (x1 : Int) (h : (laws_szKeyS (real Try.prog R) x0 x1 : World → Prop) w) :
    Calls Try.prog n_laws_szKeyS [(.slice x0.a x0.n x0.c), (.int .i64 x1)].toArray w fun e w' => ∃ v, e = .returned v ∧ R v w' := fT_sound mixed { loop := [], join := [], anyOrder := [], pure := [] } (by rw [laws_szKeyS_eq]; exact h)

/-- spec.CheckRange (8) -/
def spec_CheckRange (C : Comb) (x0 : Array Value) (x1 : Int) (x2 : Int) (x3 : Sl) (x4 : Sl) : C.St :=
  C.new ty_impl_Key (.agg x0) fun b5 =>
  C.join (TL []) (embL []) (fun s2 => C.any fun _ =>
      C.join (TL []) (embL []) (fun s5 => C.any fun _ =>
          C.call n_spec_l03Told [(.int .i64 x1), (.int .i64 x2), (.slice x3.a x3.n x3.c), (.slice x4.a x4.n x4.c)] [.agg, .slice, .bool] fun r45 =>
          C.new ty_impl_Key (.agg (Array.replicate 32 (.int .u8 0))) fun b12 =>
          C.st 32 (Addr.mk b12 0 none) (.agg r45.1) <|
          cond r45.2.2 (
            cond ((r45.2.1.n : Int) == 0) (
              C.ld .agg 32 (Addr.mk b12 0 none) fun v56 =>
              C.ld .agg 32 (Addr.mk b5 0 none) fun v57 =>
              C.pur (eqB .eql ty_impl_Key (.tmp 56) (.tmp 57) (.agg v56) (.agg v57)) .bool fun y58 =>
              C.ret (.tuple #[(.bool y58), (.int .i64 0)])
            ) (
              C.ret (.tuple #[(.bool false), (.int .i64 0)])
            )
          ) (
            C.ret (.tuple #[(.bool false), (.int .i64 0)])
          )
        ) fun jt =>
      C.call n_spec_l00In [(.int .i64 x1), (.int .i64 1), (.int .i64 256)] [.bool] fun r24 =>
      cond (!r24) (
        C.ret (.tuple #[(.bool false), (.int .i64 2)])
      ) (
        cond ((x3.n : Int) == 0) (
          C.ret (.tuple #[(.bool false), (.int .i64 2)])
        ) (
          C.call n_spec_l00In [(.int .i64 x2), (.int .i64 0), (.int .i64 (IntKind.wrap .i64 (x1 - (x3.n : Int))))] [.bool] fun r37 =>
          cond (!r37) (
            C.ret (.tuple #[(.bool false), (.int .i64 2)])
          ) (
            jt []
          )
        )
      )
    ) fun jt =>
  cond (decide ((x3.n : Int) > 256)) (
    C.ret (.tuple #[(.bool false), (.int .i64 3)])
  ) (
    cond (decide ((x4.n : Int) > 256)) (
      C.ret (.tuple #[(.bool false), (.int .i64 3)])
    ) (
      jt []
    )
  )
theorem spec_CheckRange_eq (C : Comb) (x0 : Array Value) (x1 : Int) (x2 : Int) (x3 : Sl) (x4 : Sl) : fT C Try.prog { loop := [], join := [(66, []), (117, [])], anyOrder := [], pure := [] } n_spec_CheckRange [(.agg x0), (.int .i64 x1), (.int .i64 x2), (.slice x3.a x3.n x3.c), (.slice x4.a x4.n x4.c)] = spec_CheckRange C x0 x1 x2 x3 x4 := by kernel_rfl
theorem spec_CheckRange_calls {R : Value → World → Prop} {w : World} (x0 : Array Value) (x1 : Int) (x2 : Int) (x3 : Sl) (x4 : Sl) (h : (spec_CheckRange (real Try.prog R) x0 x1 x2 x3 x4 : World → Prop) w) :
    Calls Try.prog n_spec_CheckRange [(.agg x0), (.int .i64 x1), (.int .i64 x2), (.slice x3.a x3.n x3.c), (.slice x4.a x4.n x4.c)].toArray w fun e w' => ∃ v, e = .returned v ∧ R v w' := fT_sound mixed { loop := [], join := [(66, []), (117, [])], anyOrder := [], pure := [] } (by rw [spec_CheckRange_eq]; exact h)

/-- laws.toKey (9) -/
def laws_toKey (C : Comb) (x0 : Array Value) : C.St :=
  C.new ty_arr32_uint8 (.agg x0) fun b1 =>
  C.new ty_impl_Key (.agg (Array.replicate 32 (.int .u8 0))) fun b2 =>
  C.new ty_impl_Key (.agg (Array.replicate 32 (.int .u8 0))) fun b3 =>
  C.loop (TL [(.int .i64)]) (embL [(.int .i64)]) [(.int .i64 0)] fun s4 ct4 => C.any fun _ =>
  cond (decide (s4 < 32)) (
    C.ix (some (Addr.mk b1 0 none)) 32 1 s4 fun p11 =>
    C.ld (.int .u8) 1 p11 fun v12 =>
    C.ix (some (Addr.mk b3 0 none)) 32 1 s4 fun p13 =>
    C.st 1 p13 (.int .u8 v12) <|
    ct4 [(.int .i64 (IntKind.wrap .i64 (s4 + 1)))]
  ) (
    C.ld .agg 32 (Addr.mk b3 0 none) fun v14 =>
    C.st 32 (Addr.mk b2 0 none) (.agg v14) <|
    C.ld .agg 32 (Addr.mk b2 0 none) fun z9 =>
    C.ret (.agg z9)
  )
theorem laws_toKey_eq (C : Comb) (x0 : Array Value) : fT C Try.prog { loop := [(3, [(4, (.int .i64))])], join := [], anyOrder := [], pure := [] } n_laws_toKey [(.agg x0)] = laws_toKey C x0 := by kernel_rfl
theorem laws_toKey_calls {R : Value → World → Prop} {w : World} (x0 : Array Value) (h : (laws_toKey (real Try.prog R) x0 : World → Prop) w) :
    Calls Try.prog n_laws_toKey [(.agg x0)].toArray w fun e w' => ∃ v, e = .returned v ∧ R v w' := fT_sound mixed { loop := [(3, [(4, (.int .i64))])], join := [], anyOrder := [], pure := [] } (by rw [laws_toKey_eq]; exact h)

/-- laws.toKeyS (10) -/
def laws_toKeyS (C : Comb) (x0 : Sl) : C.St :=
  C.sem (Instr.makeSlice ty_sl_impl_Key (.int .i64 (x0.n : Int)) (.int .i64 (x0.n : Int))) .slice fun y7 =>
  C.loop (TL [(.int .i64)]) (embL [(.int .i64)]) [(.int .i64 0)] fun s2 ct2 => C.any fun _ =>
  cond (decide (s2 < (x0.n : Int))) (
    C.ix x0.a x0.n 32 s2 fun p18 =>
    C.ld .agg 32 p18 fun v19 =>
    C.call n_laws_toKey [(.agg v19)] [.agg] fun r20 =>
    C.ix y7.a y7.n 32 s2 fun p21 =>
    C.st 32 p21 (.agg r20) <|
    ct2 [(.int .i64 (IntKind.wrap .i64 (s2 + 1)))]
  ) (
    C.ret (.slice y7.a y7.n y7.c)
  )
theorem laws_toKeyS_eq (C : Comb) (x0 : Sl) : fT C Try.prog { loop := [(3, [(4, (.int .i64))])], join := [], anyOrder := [], pure := [] } n_laws_toKeyS [(.slice x0.a x0.n x0.c)] = laws_toKeyS C x0 := by kernel_rfl
theorem laws_toKeyS_calls {R : Value → World → Prop} {w : World} (x0 : Sl) (h : (laws_toKeyS (real Try.prog R) x0 : World → Prop) w) :
    Calls Try.prog n_laws_toKeyS [(.slice x0.a x0.n x0.c)].toArray w fun e w' => ∃ v, e = .returned v ∧ R v w' := fT_sound mixed { loop := [(3, [(4, (.int .i64))])], join := [], anyOrder := [], pure := [] } (by rw [laws_toKeyS_eq]; exact h)

/-- impl.CheckRange (11) -/
def impl_CheckRange (C : Comb) (x0 : Array Value) (x1 : Int) (x2 : Int) (x3 : Sl) (x4 : Sl) : C.St :=
  C.new ty_impl_Key (.agg x0) fun b5 =>
  C.new ty_int64 (.int .i64 x2) fun b7 =>
  C.new ty_sl_impl_Key (.slice x3.a x3.n x3.c) fun b8 =>
  C.join (TL []) (embL []) (fun s12 => C.any fun _ =>
      C.join (TL [.ptr, .ptr]) (embL [.ptr, .ptr]) (fun s34 => C.any fun _ =>
          C.new ty_func_int64_int64_impl_Key .nilFunc fun b14 =>
          C.st 1 (Addr.mk b14 0 none) (.func (.func n_impl_CheckRange_1) #[] #[(.pointer (some (Addr.mk b7 0 none))), (.pointer (some s34.1)), (.pointer (some s34.2)), (.pointer (some (Addr.mk b8 0 none))), (.pointer (some (Addr.mk b14 0 none)))]) <|
          C.ld .val 1 (Addr.mk b14 0 none) fun v54 =>
          C.callV v54 [(.int .i64 0), (.int .i64 x1)] [.agg] fun r56 =>
          C.new ty_impl_Key (.agg (Array.replicate 32 (.int .u8 0))) fun b15 =>
          C.st 32 (Addr.mk b15 0 none) (.agg r56) <|
          C.ld .ptr 1 s34.2 fun v57 =>
          C.ld .bool 1 (v57.add 1) fun v60 =>
          cond v60 (
            C.ld .ptr 1 s34.2 fun v62 =>
            C.ld .slice 1 (v62.add 0) fun v65 =>
            cond ((v65.n : Int) == 0) (
              C.ld .agg 32 (Addr.mk b15 0 none) fun v70 =>
              C.ld .agg 32 (Addr.mk b5 0 none) fun v71 =>
              C.pur (eqB .eql ty_impl_Key (.tmp 70) (.tmp 71) (.agg v70) (.agg v71)) .bool fun y72 =>
              C.ret (.tuple #[(.bool y72), (.int .i64 0)])
            ) (
              C.ret (.tuple #[(.bool false), (.int .i64 0)])
            )
          ) (
            C.ret (.tuple #[(.bool false), (.int .i64 0)])
          )
        ) fun jt =>
      C.draw <|
      C.ld (.int .i64) 1 (Addr.mk b7 0 none) fun v46 =>
      C.ld .slice 1 (Addr.mk b8 0 none) fun v47 =>
      C.callP n_impl_size_impl_Key [(.slice v47.a v47.n v47.c)] [(.int .i64)] fun r48 =>
      C.pur (Instr.build ty_impl_queue #[(0, (.slice x4.a x4.n x4.c)), (1, (.bool true))]) .agg fun y51 =>
      C.all [
        (C.new ty_impl_queue (.agg y51) fun b52 =>
         C.chk [⟨1, 1, (Addr.mk b8 0 none), .slice, v47⟩, ⟨0, 1, (Addr.mk b7 0 none), (.int .i64), v46⟩] <|
         C.all [
           (C.new ty_int64 (.int .i64 0) fun b12 =>
            C.chk [⟨1, 1, (Addr.mk b8 0 none), .slice, v47⟩, ⟨0, 1, (Addr.mk b7 0 none), (.int .i64), v46⟩] <|
            C.new ty_ptr_impl_queue (.pointer none) fun b13 =>
            C.chk [⟨1, 1, (Addr.mk b8 0 none), .slice, v47⟩, ⟨0, 1, (Addr.mk b7 0 none), (.int .i64), v46⟩] <|
            C.st 1 (Addr.mk b12 0 none) (.int .i64 (IntKind.wrap .i64 (v46 + r48))) <|
            C.st 1 (Addr.mk b13 0 none) (.pointer (some (Addr.mk b52 0 none))) <|
            jt [(.pointer (some (Addr.mk b12 0 none))), (.pointer (some (Addr.mk b13 0 none)))]),
           (C.new ty_ptr_impl_queue (.pointer none) fun b13 =>
            C.chk [⟨1, 1, (Addr.mk b8 0 none), .slice, v47⟩, ⟨0, 1, (Addr.mk b7 0 none), (.int .i64), v46⟩] <|
            C.new ty_int64 (.int .i64 0) fun b12 =>
            C.chk [⟨1, 1, (Addr.mk b8 0 none), .slice, v47⟩, ⟨0, 1, (Addr.mk b7 0 none), (.int .i64), v46⟩] <|
            C.st 1 (Addr.mk b12 0 none) (.int .i64 (IntKind.wrap .i64 (v46 + r48))) <|
            C.st 1 (Addr.mk b13 0 none) (.pointer (some (Addr.mk b52 0 none))) <|
            jt [(.pointer (some (Addr.mk b12 0 none))), (.pointer (some (Addr.mk b13 0 none)))])]),
        (C.new ty_int64 (.int .i64 0) fun b12 =>
         C.chk [⟨1, 1, (Addr.mk b8 0 none), .slice, v47⟩, ⟨0, 1, (Addr.mk b7 0 none), (.int .i64), v46⟩] <|
         C.all [
           (C.new ty_impl_queue (.agg y51) fun b52 =>
            C.chk [⟨1, 1, (Addr.mk b8 0 none), .slice, v47⟩, ⟨0, 1, (Addr.mk b7 0 none), (.int .i64), v46⟩] <|
            C.new ty_ptr_impl_queue (.pointer none) fun b13 =>
            C.chk [⟨1, 1, (Addr.mk b8 0 none), .slice, v47⟩, ⟨0, 1, (Addr.mk b7 0 none), (.int .i64), v46⟩] <|
            C.st 1 (Addr.mk b12 0 none) (.int .i64 (IntKind.wrap .i64 (v46 + r48))) <|
            C.st 1 (Addr.mk b13 0 none) (.pointer (some (Addr.mk b52 0 none))) <|
            jt [(.pointer (some (Addr.mk b12 0 none))), (.pointer (some (Addr.mk b13 0 none)))]),
           (C.new ty_ptr_impl_queue (.pointer none) fun b13 =>
            C.chk [⟨1, 1, (Addr.mk b8 0 none), .slice, v47⟩, ⟨0, 1, (Addr.mk b7 0 none), (.int .i64), v46⟩] <|
            C.all [
              (C.new ty_impl_queue (.agg y51) fun b52 =>
               C.chk [⟨1, 1, (Addr.mk b8 0 none), .slice, v47⟩, ⟨0, 1, (Addr.mk b7 0 none), (.int .i64), v46⟩] <|
               C.st 1 (Addr.mk b12 0 none) (.int .i64 (IntKind.wrap .i64 (v46 + r48))) <|
               C.st 1 (Addr.mk b13 0 none) (.pointer (some (Addr.mk b52 0 none))) <|
               jt [(.pointer (some (Addr.mk b12 0 none))), (.pointer (some (Addr.mk b13 0 none)))]),
              (C.st 1 (Addr.mk b12 0 none) (.int .i64 (IntKind.wrap .i64 (v46 + r48))) <|
               C.new ty_impl_queue (.agg y51) fun b52 =>
               C.st 1 (Addr.mk b13 0 none) (.pointer (some (Addr.mk b52 0 none))) <|
               jt [(.pointer (some (Addr.mk b12 0 none))), (.pointer (some (Addr.mk b13 0 none)))])])]),
        (C.new ty_ptr_impl_queue (.pointer none) fun b13 =>
         C.chk [⟨1, 1, (Addr.mk b8 0 none), .slice, v47⟩, ⟨0, 1, (Addr.mk b7 0 none), (.int .i64), v46⟩] <|
         C.all [
           (C.new ty_impl_queue (.agg y51) fun b52 =>
            C.chk [⟨1, 1, (Addr.mk b8 0 none), .slice, v47⟩, ⟨0, 1, (Addr.mk b7 0 none), (.int .i64), v46⟩] <|
            C.new ty_int64 (.int .i64 0) fun b12 =>
            C.chk [⟨1, 1, (Addr.mk b8 0 none), .slice, v47⟩, ⟨0, 1, (Addr.mk b7 0 none), (.int .i64), v46⟩] <|
            C.st 1 (Addr.mk b12 0 none) (.int .i64 (IntKind.wrap .i64 (v46 + r48))) <|
            C.st 1 (Addr.mk b13 0 none) (.pointer (some (Addr.mk b52 0 none))) <|
            jt [(.pointer (some (Addr.mk b12 0 none))), (.pointer (some (Addr.mk b13 0 none)))]),
           (C.new ty_int64 (.int .i64 0) fun b12 =>
            C.chk [⟨1, 1, (Addr.mk b8 0 none), .slice, v47⟩, ⟨0, 1, (Addr.mk b7 0 none), (.int .i64), v46⟩] <|
            C.all [
              (C.new ty_impl_queue (.agg y51) fun b52 =>
               C.chk [⟨1, 1, (Addr.mk b8 0 none), .slice, v47⟩, ⟨0, 1, (Addr.mk b7 0 none), (.int .i64), v46⟩] <|
               C.st 1 (Addr.mk b12 0 none) (.int .i64 (IntKind.wrap .i64 (v46 + r48))) <|
               C.st 1 (Addr.mk b13 0 none) (.pointer (some (Addr.mk b52 0 none))) <|
               jt [(.pointer (some (Addr.mk b12 0 none))), (.pointer (some (Addr.mk b13 0 none)))]),
              (C.st 1 (Addr.mk b12 0 none) (.int .i64 (IntKind.wrap .i64 (v46 + r48))) <|
               C.new ty_impl_queue (.agg y51) fun b52 =>
               C.st 1 (Addr.mk b13 0 none) (.pointer (some (Addr.mk b52 0 none))) <|
               jt [(.pointer (some (Addr.mk b12 0 none))), (.pointer (some (Addr.mk b13 0 none)))])])])]
    ) fun jt =>
  C.join (TL [.bool]) (embL [.bool]) (fun s5 => C.any fun _ =>
      cond s5 (
        C.ret (.tuple #[(.bool false), (.int .i64 3)])
      ) (
        C.draw <|
        C.callQ n_impl_isLeaves [(.int .i64 x1)] [.bool] fun r27 =>
        cond (!r27) (
          C.ret (.tuple #[(.bool false), (.int .i64 2)])
        ) (
          C.ld .slice 1 (Addr.mk b8 0 none) fun v30 =>
          cond ((v30.n : Int) == 0) (
            C.ret (.tuple #[(.bool false), (.int .i64 2)])
          ) (
            C.ld (.int .i64) 1 (Addr.mk b7 0 none) fun v35 =>
            cond (decide (v35 < 0)) (
              C.ret (.tuple #[(.bool false), (.int .i64 2)])
            ) (
              C.ld .slice 1 (Addr.mk b8 0 none) fun v39 =>
              C.callQ n_impl_size_impl_Key [(.slice v39.a v39.n v39.c)] [(.int .i64)] fun r40 =>
              C.ld (.int .i64) 1 (Addr.mk b7 0 none) fun v42 =>
              cond (decide (r40 > (IntKind.wrap .i64 (x1 - v42)))) (
                C.ret (.tuple #[(.bool false), (.int .i64 2)])
              ) (
                jt []
              )
            )
          )
        )
      )
    ) fun jt =>
  C.ld .slice 1 (Addr.mk b8 0 none) fun v17 =>
  cond (decide ((v17.n : Int) > 256)) (
    jt [(.bool true)]
  ) (
    jt [(.bool (decide ((x4.n : Int) > 256)))]
  )
theorem impl_CheckRange_eq (C : Comb) (x0 : Array Value) (x1 : Int) (x2 : Int) (x3 : Sl) (x4 : Sl) : fT C Try.prog { loop := [], join := [(4, [(16, .bool)]), (5, []), (16, [(12, .ptr), (13, .ptr)])], anyOrder := [5], pure := [28] } n_impl_CheckRange [(.agg x0), (.int .i64 x1), (.int .i64 x2), (.slice x3.a x3.n x3.c), (.slice x4.a x4.n x4.c)] = impl_CheckRange C x0 x1 x2 x3 x4 := by kernel_rfl
theorem impl_CheckRange_calls {R : Value → World → Prop} {w : World} (x0 : Array Value) (x1 : Int) (x2 : Int) (x3 : Sl) (x4 : Sl) (h : (impl_CheckRange (real Try.prog R) x0 x1 x2 x3 x4 : World → Prop) w) :
    Calls Try.prog n_impl_CheckRange [(.agg x0), (.int .i64 x1), (.int .i64 x2), (.slice x3.a x3.n x3.c), (.slice x4.a x4.n x4.c)].toArray w fun e w' => ∃ v, e = .returned v ∧ R v w' := fT_sound mixed { loop := [], join := [(4, [(16, .bool)]), (5, []), (16, [(12, .ptr), (13, .ptr)])], anyOrder := [5], pure := [28] } (by rw [impl_CheckRange_eq]; exact h)

/-- laws.eqKeyS (12) -/
def laws_eqKeyS (C : Comb) (x0 : Sl) (x1 : Sl) : C.St :=
  cond ((x0.n : Int) != (x1.n : Int)) (
    C.ret (.bool false)
  ) (
    C.loop (TL [(.int .i64)]) (embL [(.int .i64)]) [(.int .i64 0)] fun s1 ct1 => C.any fun _ =>
    cond (decide (s1 < (x0.n : Int))) (
      C.draw <|
      C.ix x0.a x0.n 32 s1 fun p19 =>
      C.ld .agg 32 p19 fun v20 =>
      C.ix x1.a x1.n 32 s1 fun p23 =>
      C.ld .agg 32 p23 fun v24 =>
      C.call n_laws_eqKey [(.agg v20), (.agg v24)] [.bool] fun r25 =>
      cond (!r25) (
        C.ret (.bool false)
      ) (
        ct1 [(.int .i64 (IntKind.wrap .i64 (s1 + 1)))]
      )
    ) (
      C.ret (.bool true)
    )
  )
theorem laws_eqKeyS_eq (C : Comb) (x0 : Sl) (x1 : Sl) : fT C Try.prog { loop := [(4, [(5, (.int .i64))])], join := [], anyOrder := [6], pure := [] } n_laws_eqKeyS [(.slice x0.a x0.n x0.c), (.slice x1.a x1.n x1.c)] = laws_eqKeyS C x0 x1 := by kernel_rfl
theorem laws_eqKeyS_calls {R : Value → World → Prop} {w : World} (x0 : Sl) (x1 : Sl) (h : (laws_eqKeyS (real Try.prog R) x0 x1 : World → Prop) w) :
    Calls Try.prog n_laws_eqKeyS [(.slice x0.a x0.n x0.c), (.slice x1.a x1.n x1.c)].toArray w fun e w' => ∃ v, e = .returned v ∧ R v w' := fT_sound mixed { loop := [(4, [(5, (.int .i64))])], join := [], anyOrder := [6], pure := [] } (by rw [laws_eqKeyS_eq]; exact h)

/-- spec.CheckGrowth (13) -/
def spec_CheckGrowth (C : Comb) (x0 : Array Value) (x1 : Int) (x2 : Array Value) (x3 : Int) (x4 : Sl) : C.St :=
  C.new ty_impl_Key (.agg x0) fun b5 =>
  C.new ty_impl_Key (.agg x2) fun b7 =>
  cond (decide ((x4.n : Int) > 256)) (
    C.ret (.tuple #[(.bool false), (.int .i64 3)])
  ) (
    C.join (TL []) (embL []) (fun s5 => C.any fun _ =>
        C.call n_spec_l03Ones [(.int .i64 x1)] [(.int .i64)] fun r30 =>
        C.join (TL []) (embL []) (fun s14 => C.any fun _ =>
            C.join (TL [.ptr, .slice, .slice, .bool]) (embL [.ptr, .slice, .slice, .bool]) (fun s21 => C.any fun _ =>
                cond s21.2.2.2 (
                  cond ((s21.2.1.n : Int) == 0) (
                    cond ((s21.2.2.1.n : Int) == 0) (
                      C.ld .agg 32 s21.1 fun v69 =>
                      C.ld .agg 32 (Addr.mk b7 0 none) fun v70 =>
                      C.pur (eqB .eql ty_impl_Key (.tmp 69) (.tmp 70) (.agg v69) (.agg v70)) .bool fun y71 =>
                      C.ret (.tuple #[(.bool y71), (.int .i64 0)])
                    ) (
                      C.ret (.tuple #[(.bool false), (.int .i64 0)])
                    )
                  ) (
                    C.ret (.tuple #[(.bool false), (.int .i64 0)])
                  )
                ) (
                  C.ret (.tuple #[(.bool false), (.int .i64 0)])
                )
              ) fun jt =>
            C.draw <|
            C.sl x4.a x4.n x4.c 32 none (some r30) none fun y48 =>
            C.sl x4.a x4.n x4.c 32 (some r30) none none fun y51 =>
            C.all [
              (C.call n_spec_l03Grown [(.int .i64 x3), (.int .i64 x1), (.slice y48.a y48.n y48.c), (.slice y51.a y51.n y51.c)] [.agg, .slice, .slice, .bool] fun r52 =>
               C.new ty_impl_Key (.agg (Array.replicate 32 (.int .u8 0))) fun b13 =>
               C.st 32 (Addr.mk b13 0 none) (.agg r52.1) <|
               jt [(.pointer (some (Addr.mk b13 0 none))), (.slice r52.2.1.a r52.2.1.n r52.2.1.c), (.slice r52.2.2.1.a r52.2.2.1.n r52.2.2.1.c), (.bool r52.2.2.2)]),
              (C.new ty_impl_Key (.agg (Array.replicate 32 (.int .u8 0))) fun b13 =>
               C.call n_spec_l03Grown [(.int .i64 x3), (.int .i64 x1), (.slice y48.a y48.n y48.c), (.slice y51.a y51.n y51.c)] [.agg, .slice, .slice, .bool] fun r52 =>
               C.st 32 (Addr.mk b13 0 none) (.agg r52.1) <|
               jt [(.pointer (some (Addr.mk b13 0 none))), (.slice r52.2.1.a r52.2.1.n r52.2.1.c), (.slice r52.2.2.1.a r52.2.2.1.n r52.2.2.1.c), (.bool r52.2.2.2)])]
          ) fun jt =>
        C.draw <|
        cond (decide ((x4.n : Int) < r30)) (
          C.all [
            (C.ret (.tuple #[(.bool false), (.int .i64 0)])),
            (C.ret (.tuple #[(.bool false), (.int .i64 0)]))]
        ) (
          C.sl x4.a x4.n x4.c 32 none (some r30) none fun y38 =>
          C.all [
            (C.call n_spec_l03Of [(.slice y38.a y38.n y38.c)] [.agg] fun r39 =>
             C.ld .agg 32 (Addr.mk b5 0 none) fun v40 =>
             C.pur (eqB .neq ty_impl_Key (.tmp 39) (.tmp 40) (.agg r39) (.agg v40)) .bool fun y41 =>
             cond y41 (
               C.ret (.tuple #[(.bool false), (.int .i64 0)])
             ) (
               jt []
             )),
            (C.ld .agg 32 (Addr.mk b5 0 none) fun v40 =>
             C.call n_spec_l03Of [(.slice y38.a y38.n y38.c)] [.agg] fun r39 =>
             C.pur (eqB .neq ty_impl_Key (.tmp 39) (.tmp 40) (.agg r39) (.agg v40)) .bool fun y41 =>
             cond y41 (
               C.ret (.tuple #[(.bool false), (.int .i64 0)])
             ) (
               jt []
             ))]
        )
      ) fun jt =>
    C.call n_spec_l00In [(.int .i64 x3), (.int .i64 1), (.int .i64 256)] [.bool] fun r21 =>
    cond (!r21) (
      C.ret (.tuple #[(.bool false), (.int .i64 2)])
    ) (
      C.call n_spec_l00In [(.int .i64 x1), (.int .i64 1), (.int .i64 x3)] [.bool] fun r26 =>
      cond (!r26) (
        C.ret (.tuple #[(.bool false), (.int .i64 2)])
      ) (
        jt []
      )
    )
  )
theorem spec_CheckGrowth_eq (C : Comb) (x0 : Array Value) (x1 : Int) (x2 : Array Value) (x3 : Int) (x4 : Sl) : fT C Try.prog { loop := [], join := [(84, []), (126, []), (25, [(13, .ptr), (14, .slice), (15, .slice), (16, .bool)])], anyOrder := [6, 8], pure := [] } n_spec_CheckGrowth [(.agg x0), (.int .i64 x1), (.agg x2), (.int .i64 x3), (.slice x4.a x4.n x4.c)] = spec_CheckGrowth C x0 x1 x2 x3 x4 := by kernel_rfl
theorem spec_CheckGrowth_calls {R : Value → World → Prop} {w : World} (x0 : Array Value) (x1 : Int) (x2 : Array Value) (x3 : Int) (x4 : Sl) (h : (spec_CheckGrowth (real Try.prog R) x0 x1 x2 x3 x4 : World → Prop) w) :
    Calls Try.prog n_spec_CheckGrowth [(.agg x0), (.int .i64 x1), (.agg x2), (.int .i64 x3), (.slice x4.a x4.n x4.c)].toArray w fun e w' => ∃ v, e = .returned v ∧ R v w' := fT_sound mixed { loop := [], join := [(84, []), (126, []), (25, [(13, .ptr), (14, .slice), (15, .slice), (16, .bool)])], anyOrder := [6, 8], pure := [] } (by rw [spec_CheckGrowth_eq]; exact h)

/-- impl.CheckGrowth (14) -/
def impl_CheckGrowth (C : Comb) (x0 : Array Value) (x1 : Int) (x2 : Array Value) (x3 : Int) (x4 : Sl) : C.St :=
  C.new ty_impl_Key (.agg x0) fun b5 =>
  C.new ty_int64 (.int .i64 x1) fun b6 =>
  C.new ty_impl_Key (.agg x2) fun b7 =>
  C.join (TL []) (embL []) (fun s7 => C.any fun _ =>
      C.ld (.int .i64) 1 (Addr.mk b6 0 none) fun v32 =>
      C.call n_math_bits_OnesCount64 [(.int .u64 (IntKind.wrap .u64 (v32)))] [(.int .i64)] fun r34 =>
      C.join (TL []) (embL []) (fun s17 => C.any fun _ =>
          C.join (TL [.ptr, .ptr]) (embL [.ptr, .ptr]) (fun s92 => C.any fun _ =>
              C.new ty_func_int64_int64_bool .nilFunc fun b15 =>
              C.st 1 (Addr.mk b15 0 none) (.func (.func n_impl_CheckGrowth_1) #[] #[(.pointer (some (Addr.mk b6 0 none)))]) <|
              C.new ty_func_int64_int64_impl_Key .nilFunc fun b16 =>
              C.st 1 (Addr.mk b16 0 none) (.func (.func n_impl_CheckGrowth_2) #[] #[(.pointer (some (Addr.mk b6 0 none))), (.pointer (some s92.2)), (.pointer (some (Addr.mk b15 0 none))), (.pointer (some s92.1)), (.pointer (some (Addr.mk b16 0 none)))]) <|
              C.ld .val 1 (Addr.mk b16 0 none) fun v59 =>
              C.callV v59 [(.int .i64 0), (.int .i64 x3)] [.agg] fun r61 =>
              C.new ty_impl_Key (.agg (Array.replicate 32 (.int .u8 0))) fun b17 =>
              C.st 32 (Addr.mk b17 0 none) (.agg r61) <|
              C.ld .ptr 1 s92.1 fun v62 =>
              C.ld .bool 1 (v62.add 1) fun v65 =>
              cond v65 (
                C.ld .ptr 1 s92.2 fun v67 =>
                C.ld .bool 1 (v67.add 1) fun v70 =>
                cond v70 (
                  C.ld .ptr 1 s92.1 fun v73 =>
                  C.ld .slice 1 (v73.add 0) fun v76 =>
                  cond ((v76.n : Int) == 0) (
                    C.ld .ptr 1 s92.2 fun v81 =>
                    C.ld .slice 1 (v81.add 0) fun v84 =>
                    cond ((v84.n : Int) == 0) (
                      C.ld .agg 32 (Addr.mk b17 0 none) fun v89 =>
                      C.ld .agg 32 (Addr.mk b7 0 none) fun v90 =>
                      C.pur (eqB .eql ty_impl_Key (.tmp 89) (.tmp 90) (.agg v89) (.agg v90)) .bool fun y91 =>
                      C.ret (.tuple #[(.bool y91), (.int .i64 0)])
                    ) (
                      C.ret (.tuple #[(.bool false), (.int .i64 0)])
                    )
                  ) (
                    C.ret (.tuple #[(.bool false), (.int .i64 0)])
                  )
                ) (
                  C.ret (.tuple #[(.bool false), (.int .i64 0)])
                )
              ) (
                C.ret (.tuple #[(.bool false), (.int .i64 0)])
              )
            ) fun jt =>
          C.draw <|
          C.sl x4.a x4.n x4.c 32 none (some r34) none fun y49 =>
          C.pur (Instr.build ty_impl_queue #[(0, (.slice y49.a y49.n y49.c)), (1, (.bool true))]) .agg fun y50 =>
          C.sl x4.a x4.n x4.c 32 (some r34) none none fun y54 =>
          C.pur (Instr.build ty_impl_queue #[(0, (.slice y54.a y54.n y54.c)), (1, (.bool true))]) .agg fun y55 =>
          C.all [
            (C.new ty_impl_queue (.agg y50) fun b51 =>
             C.all [
               (C.new ty_impl_queue (.agg y55) fun b56 =>
                C.all [
                  (C.new ty_ptr_impl_queue (.pointer none) fun b13 =>
                   C.new ty_ptr_impl_queue (.pointer none) fun b14 =>
                   C.st 1 (Addr.mk b13 0 none) (.pointer (some (Addr.mk b51 0 none))) <|
                   C.st 1 (Addr.mk b14 0 none) (.pointer (some (Addr.mk b56 0 none))) <|
                   jt [(.pointer (some (Addr.mk b13 0 none))), (.pointer (some (Addr.mk b14 0 none)))]),
                  (C.new ty_ptr_impl_queue (.pointer none) fun b14 =>
                   C.new ty_ptr_impl_queue (.pointer none) fun b13 =>
                   C.st 1 (Addr.mk b13 0 none) (.pointer (some (Addr.mk b51 0 none))) <|
                   C.st 1 (Addr.mk b14 0 none) (.pointer (some (Addr.mk b56 0 none))) <|
                   jt [(.pointer (some (Addr.mk b13 0 none))), (.pointer (some (Addr.mk b14 0 none)))])]),
               (C.new ty_ptr_impl_queue (.pointer none) fun b13 =>
                C.all [
                  (C.new ty_impl_queue (.agg y55) fun b56 =>
                   C.new ty_ptr_impl_queue (.pointer none) fun b14 =>
                   C.st 1 (Addr.mk b13 0 none) (.pointer (some (Addr.mk b51 0 none))) <|
                   C.st 1 (Addr.mk b14 0 none) (.pointer (some (Addr.mk b56 0 none))) <|
                   jt [(.pointer (some (Addr.mk b13 0 none))), (.pointer (some (Addr.mk b14 0 none)))]),
                  (C.new ty_ptr_impl_queue (.pointer none) fun b14 =>
                   C.all [
                     (C.new ty_impl_queue (.agg y55) fun b56 =>
                      C.st 1 (Addr.mk b13 0 none) (.pointer (some (Addr.mk b51 0 none))) <|
                      C.st 1 (Addr.mk b14 0 none) (.pointer (some (Addr.mk b56 0 none))) <|
                      jt [(.pointer (some (Addr.mk b13 0 none))), (.pointer (some (Addr.mk b14 0 none)))]),
                     (C.st 1 (Addr.mk b13 0 none) (.pointer (some (Addr.mk b51 0 none))) <|
                      C.new ty_impl_queue (.agg y55) fun b56 =>
                      C.st 1 (Addr.mk b14 0 none) (.pointer (some (Addr.mk b56 0 none))) <|
                      jt [(.pointer (some (Addr.mk b13 0 none))), (.pointer (some (Addr.mk b14 0 none)))])])]),
               (C.new ty_ptr_impl_queue (.pointer none) fun b14 =>
                C.all [
                  (C.new ty_impl_queue (.agg y55) fun b56 =>
                   C.new ty_ptr_impl_queue (.pointer none) fun b13 =>
                   C.st 1 (Addr.mk b13 0 none) (.pointer (some (Addr.mk b51 0 none))) <|
                   C.st 1 (Addr.mk b14 0 none) (.pointer (some (Addr.mk b56 0 none))) <|
                   jt [(.pointer (some (Addr.mk b13 0 none))), (.pointer (some (Addr.mk b14 0 none)))]),
                  (C.new ty_ptr_impl_queue (.pointer none) fun b13 =>
                   C.all [
                     (C.new ty_impl_queue (.agg y55) fun b56 =>
                      C.st 1 (Addr.mk b13 0 none) (.pointer (some (Addr.mk b51 0 none))) <|
                      C.st 1 (Addr.mk b14 0 none) (.pointer (some (Addr.mk b56 0 none))) <|
                      jt [(.pointer (some (Addr.mk b13 0 none))), (.pointer (some (Addr.mk b14 0 none)))]),
                     (C.st 1 (Addr.mk b13 0 none) (.pointer (some (Addr.mk b51 0 none))) <|
                      C.new ty_impl_queue (.agg y55) fun b56 =>
                      C.st 1 (Addr.mk b14 0 none) (.pointer (some (Addr.mk b56 0 none))) <|
                      jt [(.pointer (some (Addr.mk b13 0 none))), (.pointer (some (Addr.mk b14 0 none)))])])])]),
            (C.new ty_impl_queue (.agg y55) fun b56 =>
             C.all [
               (C.new ty_impl_queue (.agg y50) fun b51 =>
                C.all [
                  (C.new ty_ptr_impl_queue (.pointer none) fun b13 =>
                   C.new ty_ptr_impl_queue (.pointer none) fun b14 =>
                   C.st 1 (Addr.mk b13 0 none) (.pointer (some (Addr.mk b51 0 none))) <|
                   C.st 1 (Addr.mk b14 0 none) (.pointer (some (Addr.mk b56 0 none))) <|
                   jt [(.pointer (some (Addr.mk b13 0 none))), (.pointer (some (Addr.mk b14 0 none)))]),
                  (C.new ty_ptr_impl_queue (.pointer none) fun b14 =>
                   C.new ty_ptr_impl_queue (.pointer none) fun b13 =>
                   C.st 1 (Addr.mk b13 0 none) (.pointer (some (Addr.mk b51 0 none))) <|
                   C.st 1 (Addr.mk b14 0 none) (.pointer (some (Addr.mk b56 0 none))) <|
                   jt [(.pointer (some (Addr.mk b13 0 none))), (.pointer (some (Addr.mk b14 0 none)))])]),
               (C.new ty_ptr_impl_queue (.pointer none) fun b13 =>
                C.all [
                  (C.new ty_impl_queue (.agg y50) fun b51 =>
                   C.new ty_ptr_impl_queue (.pointer none) fun b14 =>
                   C.st 1 (Addr.mk b13 0 none) (.pointer (some (Addr.mk b51 0 none))) <|
                   C.st 1 (Addr.mk b14 0 none) (.pointer (some (Addr.mk b56 0 none))) <|
                   jt [(.pointer (some (Addr.mk b13 0 none))), (.pointer (some (Addr.mk b14 0 none)))]),
                  (C.new ty_ptr_impl_queue (.pointer none) fun b14 =>
                   C.new ty_impl_queue (.agg y50) fun b51 =>
                   C.st 1 (Addr.mk b13 0 none) (.pointer (some (Addr.mk b51 0 none))) <|
                   C.st 1 (Addr.mk b14 0 none) (.pointer (some (Addr.mk b56 0 none))) <|
                   jt [(.pointer (some (Addr.mk b13 0 none))), (.pointer (some (Addr.mk b14 0 none)))])]),
               (C.new ty_ptr_impl_queue (.pointer none) fun b14 =>
                C.all [
                  (C.new ty_impl_queue (.agg y50) fun b51 =>
                   C.new ty_ptr_impl_queue (.pointer none) fun b13 =>
                   C.st 1 (Addr.mk b13 0 none) (.pointer (some (Addr.mk b51 0 none))) <|
                   C.st 1 (Addr.mk b14 0 none) (.pointer (some (Addr.mk b56 0 none))) <|
                   jt [(.pointer (some (Addr.mk b13 0 none))), (.pointer (some (Addr.mk b14 0 none)))]),
                  (C.new ty_ptr_impl_queue (.pointer none) fun b13 =>
                   C.new ty_impl_queue (.agg y50) fun b51 =>
                   C.st 1 (Addr.mk b13 0 none) (.pointer (some (Addr.mk b51 0 none))) <|
                   C.st 1 (Addr.mk b14 0 none) (.pointer (some (Addr.mk b56 0 none))) <|
                   jt [(.pointer (some (Addr.mk b13 0 none))), (.pointer (some (Addr.mk b14 0 none)))])])]),
            (C.new ty_ptr_impl_queue (.pointer none) fun b13 =>
             C.all [
               (C.new ty_impl_queue (.agg y50) fun b51 =>
                C.all [
                  (C.new ty_impl_queue (.agg y55) fun b56 =>
                   C.new ty_ptr_impl_queue (.pointer none) fun b14 =>
                   C.st 1 (Addr.mk b13 0 none) (.pointer (some (Addr.mk b51 0 none))) <|
                   C.st 1 (Addr.mk b14 0 none) (.pointer (some (Addr.mk b56 0 none))) <|
                   jt [(.pointer (some (Addr.mk b13 0 none))), (.pointer (some (Addr.mk b14 0 none)))]),
                  (C.new ty_ptr_impl_queue (.pointer none) fun b14 =>
                   C.all [
                     (C.new ty_impl_queue (.agg y55) fun b56 =>
                      C.st 1 (Addr.mk b13 0 none) (.pointer (some (Addr.mk b51 0 none))) <|
                      C.st 1 (Addr.mk b14 0 none) (.pointer (some (Addr.mk b56 0 none))) <|
                      jt [(.pointer (some (Addr.mk b13 0 none))), (.pointer (some (Addr.mk b14 0 none)))]),
                     (C.st 1 (Addr.mk b13 0 none) (.pointer (some (Addr.mk b51 0 none))) <|
                      C.new ty_impl_queue (.agg y55) fun b56 =>
                      C.st 1 (Addr.mk b14 0 none) (.pointer (some (Addr.mk b56 0 none))) <|
                      jt [(.pointer (some (Addr.mk b13 0 none))), (.pointer (some (Addr.mk b14 0 none)))])])]),
               (C.new ty_impl_queue (.agg y55) fun b56 =>
                C.all [
                  (C.new ty_impl_queue (.agg y50) fun b51 =>
                   C.new ty_ptr_impl_queue (.pointer none) fun b14 =>
                   C.st 1 (Addr.mk b13 0 none) (.pointer (some (Addr.mk b51 0 none))) <|
                   C.st 1 (Addr.mk b14 0 none) (.pointer (some (Addr.mk b56 0 none))) <|
                   jt [(.pointer (some (Addr.mk b13 0 none))), (.pointer (some (Addr.mk b14 0 none)))]),
                  (C.new ty_ptr_impl_queue (.pointer none) fun b14 =>
                   C.new ty_impl_queue (.agg y50) fun b51 =>
                   C.st 1 (Addr.mk b13 0 none) (.pointer (some (Addr.mk b51 0 none))) <|
                   C.st 1 (Addr.mk b14 0 none) (.pointer (some (Addr.mk b56 0 none))) <|
                   jt [(.pointer (some (Addr.mk b13 0 none))), (.pointer (some (Addr.mk b14 0 none)))])]),
               (C.new ty_ptr_impl_queue (.pointer none) fun b14 =>
                C.all [
                  (C.new ty_impl_queue (.agg y50) fun b51 =>
                   C.all [
                     (C.new ty_impl_queue (.agg y55) fun b56 =>
                      C.st 1 (Addr.mk b13 0 none) (.pointer (some (Addr.mk b51 0 none))) <|
                      C.st 1 (Addr.mk b14 0 none) (.pointer (some (Addr.mk b56 0 none))) <|
                      jt [(.pointer (some (Addr.mk b13 0 none))), (.pointer (some (Addr.mk b14 0 none)))]),
                     (C.st 1 (Addr.mk b13 0 none) (.pointer (some (Addr.mk b51 0 none))) <|
                      C.new ty_impl_queue (.agg y55) fun b56 =>
                      C.st 1 (Addr.mk b14 0 none) (.pointer (some (Addr.mk b56 0 none))) <|
                      jt [(.pointer (some (Addr.mk b13 0 none))), (.pointer (some (Addr.mk b14 0 none)))])]),
                  (C.new ty_impl_queue (.agg y55) fun b56 =>
                   C.new ty_impl_queue (.agg y50) fun b51 =>
                   C.st 1 (Addr.mk b13 0 none) (.pointer (some (Addr.mk b51 0 none))) <|
                   C.st 1 (Addr.mk b14 0 none) (.pointer (some (Addr.mk b56 0 none))) <|
                   jt [(.pointer (some (Addr.mk b13 0 none))), (.pointer (some (Addr.mk b14 0 none)))])])]),
            (C.new ty_ptr_impl_queue (.pointer none) fun b14 =>
             C.all [
               (C.new ty_impl_queue (.agg y50) fun b51 =>
                C.all [
                  (C.new ty_impl_queue (.agg y55) fun b56 =>
                   C.new ty_ptr_impl_queue (.pointer none) fun b13 =>
                   C.st 1 (Addr.mk b13 0 none) (.pointer (some (Addr.mk b51 0 none))) <|
                   C.st 1 (Addr.mk b14 0 none) (.pointer (some (Addr.mk b56 0 none))) <|
                   jt [(.pointer (some (Addr.mk b13 0 none))), (.pointer (some (Addr.mk b14 0 none)))]),
                  (C.new ty_ptr_impl_queue (.pointer none) fun b13 =>
                   C.all [
                     (C.new ty_impl_queue (.agg y55) fun b56 =>
                      C.st 1 (Addr.mk b13 0 none) (.pointer (some (Addr.mk b51 0 none))) <|
                      C.st 1 (Addr.mk b14 0 none) (.pointer (some (Addr.mk b56 0 none))) <|
                      jt [(.pointer (some (Addr.mk b13 0 none))), (.pointer (some (Addr.mk b14 0 none)))]),
                     (C.st 1 (Addr.mk b13 0 none) (.pointer (some (Addr.mk b51 0 none))) <|
                      C.new ty_impl_queue (.agg y55) fun b56 =>
                      C.st 1 (Addr.mk b14 0 none) (.pointer (some (Addr.mk b56 0 none))) <|
                      jt [(.pointer (some (Addr.mk b13 0 none))), (.pointer (some (Addr.mk b14 0 none)))])])]),
               (C.new ty_impl_queue (.agg y55) fun b56 =>
                C.all [
                  (C.new ty_impl_queue (.agg y50) fun b51 =>
                   C.new ty_ptr_impl_queue (.pointer none) fun b13 =>
                   C.st 1 (Addr.mk b13 0 none) (.pointer (some (Addr.mk b51 0 none))) <|
                   C.st 1 (Addr.mk b14 0 none) (.pointer (some (Addr.mk b56 0 none))) <|
                   jt [(.pointer (some (Addr.mk b13 0 none))), (.pointer (some (Addr.mk b14 0 none)))]),
                  (C.new ty_ptr_impl_queue (.pointer none) fun b13 =>
                   C.new ty_impl_queue (.agg y50) fun b51 =>
                   C.st 1 (Addr.mk b13 0 none) (.pointer (some (Addr.mk b51 0 none))) <|
                   C.st 1 (Addr.mk b14 0 none) (.pointer (some (Addr.mk b56 0 none))) <|
                   jt [(.pointer (some (Addr.mk b13 0 none))), (.pointer (some (Addr.mk b14 0 none)))])]),
               (C.new ty_ptr_impl_queue (.pointer none) fun b13 =>
                C.all [
                  (C.new ty_impl_queue (.agg y50) fun b51 =>
                   C.all [
                     (C.new ty_impl_queue (.agg y55) fun b56 =>
                      C.st 1 (Addr.mk b13 0 none) (.pointer (some (Addr.mk b51 0 none))) <|
                      C.st 1 (Addr.mk b14 0 none) (.pointer (some (Addr.mk b56 0 none))) <|
                      jt [(.pointer (some (Addr.mk b13 0 none))), (.pointer (some (Addr.mk b14 0 none)))]),
                     (C.st 1 (Addr.mk b13 0 none) (.pointer (some (Addr.mk b51 0 none))) <|
                      C.new ty_impl_queue (.agg y55) fun b56 =>
                      C.st 1 (Addr.mk b14 0 none) (.pointer (some (Addr.mk b56 0 none))) <|
                      jt [(.pointer (some (Addr.mk b13 0 none))), (.pointer (some (Addr.mk b14 0 none)))])]),
                  (C.new ty_impl_queue (.agg y55) fun b56 =>
                   C.new ty_impl_queue (.agg y50) fun b51 =>
                   C.st 1 (Addr.mk b13 0 none) (.pointer (some (Addr.mk b51 0 none))) <|
                   C.st 1 (Addr.mk b14 0 none) (.pointer (some (Addr.mk b56 0 none))) <|
                   jt [(.pointer (some (Addr.mk b13 0 none))), (.pointer (some (Addr.mk b14 0 none)))])])])]
        ) fun jt =>
      C.draw <|
      cond (decide ((x4.n : Int) < r34)) (
        C.all [
          (C.ret (.tuple #[(.bool false), (.int .i64 0)])),
          (C.ret (.tuple #[(.bool false), (.int .i64 0)]))]
      ) (
        C.sl x4.a x4.n x4.c 32 none (some r34) none fun y42 =>
        C.all [
          (C.call n_impl_keyOfPeaks [(.slice y42.a y42.n y42.c)] [.agg] fun r43 =>
           C.ld .agg 32 (Addr.mk b5 0 none) fun v44 =>
           C.pur (eqB .neq ty_impl_Key (.tmp 43) (.tmp 44) (.agg r43) (.agg v44)) .bool fun y45 =>
           cond y45 (
             C.ret (.tuple #[(.bool false), (.int .i64 0)])
           ) (
             jt []
           )),
          (C.ld .agg 32 (Addr.mk b5 0 none) fun v44 =>
           C.call n_impl_keyOfPeaks [(.slice y42.a y42.n y42.c)] [.agg] fun r43 =>
           C.pur (eqB .neq ty_impl_Key (.tmp 43) (.tmp 44) (.agg r43) (.agg v44)) .bool fun y45 =>
           cond y45 (
             C.ret (.tuple #[(.bool false), (.int .i64 0)])
           ) (
             jt []
           ))]
      )
    ) fun jt =>
  cond (decide ((x4.n : Int) > 256)) (
    C.ret (.tuple #[(.bool false), (.int .i64 3)])
  ) (
    C.call n_impl_isLeaves [(.int .i64 x3)] [.bool] fun r24 =>
    cond (!r24) (
      C.ret (.tuple #[(.bool false), (.int .i64 2)])
    ) (
      C.ld (.int .i64) 1 (Addr.mk b6 0 none) fun v27 =>
      C.call n_impl_within [(.int .i64 v27), (.int .i64 1), (.int .i64 x3)] [.bool] fun r29 =>
      cond (!r29) (
        C.ret (.tuple #[(.bool false), (.int .i64 2)])
      ) (
        jt []
      )
    )
  )
theorem impl_CheckGrowth_eq (C : Comb) (x0 : Array Value) (x1 : Int) (x2 : Array Value) (x3 : Int) (x4 : Sl) : fT C Try.prog { loop := [], join := [(5, []), (138, []), (25, [(13, .ptr), (14, .ptr)])], anyOrder := [6, 8], pure := [] } n_impl_CheckGrowth [(.agg x0), (.int .i64 x1), (.agg x2), (.int .i64 x3), (.slice x4.a x4.n x4.c)] = impl_CheckGrowth C x0 x1 x2 x3 x4 := by kernel_rfl
theorem impl_CheckGrowth_calls {R : Value → World → Prop} {w : World} (x0 : Array Value) (x1 : Int) (x2 : Array Value) (x3 : Int) (x4 : Sl) (h : (impl_CheckGrowth (real Try.prog R) x0 x1 x2 x3 x4 : World → Prop) w) :
    Calls Try.prog n_impl_CheckGrowth [(.agg x0), (.int .i64 x1), (.agg x2), (.int .i64 x3), (.slice x4.a x4.n x4.c)].toArray w fun e w' => ∃ v, e = .returned v ∧ R v w' := fT_sound mixed { loop := [], join := [(5, []), (138, []), (25, [(13, .ptr), (14, .ptr)])], anyOrder := [6, 8], pure := [] } (by rw [impl_CheckGrowth_eq]; exact h)

/-- laws.a2Long (15) -/
def laws_a2Long (C : Comb) (x0 : Sl) (x1 : Sl) : C.St :=
  cond (decide ((x0.n : Int) > 3000)) (
    C.ret (.bool true)
  ) (
    C.ret (.bool (decide ((x1.n : Int) > 3000)))
  )
theorem laws_a2Long_eq (C : Comb) (x0 : Sl) (x1 : Sl) : fT C Try.prog { loop := [], join := [], anyOrder := [], pure := [] } n_laws_a2Long [(.slice x0.a x0.n x0.c), (.slice x1.a x1.n x1.c)] = laws_a2Long C x0 x1 := by kernel_rfl
theorem laws_a2Long_calls {R : Value → World → Prop} {w : World} (x0 : Sl) (x1 : Sl) (h : (laws_a2Long (real Try.prog R) x0 x1 : World → Prop) w) :
    Calls Try.prog n_laws_a2Long [(.slice x0.a x0.n x0.c), (.slice x1.a x1.n x1.c)].toArray w fun e w' => ∃ v, e = .returned v ∧ R v w' := fT_sound mixed { loop := [], join := [], anyOrder := [], pure := [] } (by rw [laws_a2Long_eq]; exact h)

/-- spec.A2Keys (16) -/
def spec_A2Keys (C : Comb) (x0 : Sl) (x1 : Int) : C.St :=
  C.call n_spec_l00From [(.slice x0.a x0.n x0.c)] [.ptr] fun r9 =>
  C.sem (Instr.buildSlice ty_sl_impl_Key 0 #[]) .slice fun y10 =>
  C.call n_ptr_spec_l00Src_pick [(.pointer (some r9)), (.int .i64 (IntKind.wrap .i64 (x1 + 1)))] [(.int .i64)] fun r14 =>
  C.loop (TL [.slice, (.int .i64)]) (embL [.slice, (.int .i64)]) [(.slice y10.a y10.n y10.c), (.int .i64 r14)] fun s4 ct4 => C.any fun _ =>
  cond (decide (s4.2 > 0)) (
    C.call n_spec_l01Any [(.pointer (some r9))] [.agg] fun r21 =>
    C.sem (Instr.buildSlice ty_sl_impl_Key 1 #[(0, (.agg r21))]) .slice fun y22 =>
    C.sem (Builtin.append_ #[ty_sl_impl_Key, ty_sl_impl_Key] ty_sl_impl_Key #[(.slice s4.1.a s4.1.n s4.1.c), (.slice y22.a y22.n y22.c)]) .slice fun y23 =>
    ct4 [(.slice y23.a y23.n y23.c), (.int .i64 (IntKind.wrap .i64 (s4.2 - 1)))]
  ) (
    C.ret (.slice s4.1.a s4.1.n s4.1.c)
  )
theorem spec_A2Keys_eq (C : Comb) (x0 : Sl) (x1 : Int) : fT C Try.prog { loop := [(4, [(6, .slice), (7, (.int .i64))])], join := [], anyOrder := [], pure := [] } n_spec_A2Keys [(.slice x0.a x0.n x0.c), (.int .i64 x1)] = spec_A2Keys C x0 x1 := by kernel_rfl
theorem spec_A2Keys_calls {R : Value → World → Prop} {w : World} (x0 : Sl) (x1 : Int) (h : (spec_A2Keys (real Try.prog R) x0 x1 : World → Prop) w) :
    Calls Try.prog n_spec_A2Keys [(.slice x0.a x0.n x0.c), (.int .i64 x1)].toArray w fun e w' => ∃ v, e = .returned v ∧ R v w' := fT_sound mixed { loop := [(4, [(6, .slice), (7, (.int .i64))])], join := [], anyOrder := [], pure := [] } (by rw [spec_A2Keys_eq]; exact h)

/-- laws.a2At (17) -/
def laws_a2At (C : Comb) (x0 : Sl) (x1 : Int) (x2 : Int) : C.St :=
  C.join (TL []) (embL []) (fun s1 => C.any fun _ =>
      C.ix x0.a x0.n 1 x1 fun p17 =>
      C.ld (.int .u8) 1 p17 fun v18 =>
      C.pur (eqB .rem ty_int64 (.tmp 19) (.tmp 20) (.int .i64 (IntKind.wrap .i64 (v18))) (.int .i64 x2)) (.int .i64) fun y21 =>
      C.ret (.int .i64 y21)
    ) fun jt =>
  cond (decide (x1 ≥ (x0.n : Int))) (
    C.ret (.int .i64 0)
  ) (
    cond (decide (x2 < 1)) (
      C.ret (.int .i64 0)
    ) (
      jt []
    )
  )
theorem laws_a2At_eq (C : Comb) (x0 : Sl) (x1 : Int) (x2 : Int) : fT C Try.prog { loop := [], join := [(42, [])], anyOrder := [], pure := [] } n_laws_a2At [(.slice x0.a x0.n x0.c), (.int .i64 x1), (.int .i64 x2)] = laws_a2At C x0 x1 x2 := by kernel_rfl
theorem laws_a2At_calls {R : Value → World → Prop} {w : World} (x0 : Sl) (x1 : Int) (x2 : Int) (h : (laws_a2At (real Try.prog R) x0 x1 x2 : World → Prop) w) :
    Calls Try.prog n_laws_a2At [(.slice x0.a x0.n x0.c), (.int .i64 x1), (.int .i64 x2)].toArray w fun e w' => ∃ v, e = .returned v ∧ R v w' := fT_sound mixed { loop := [], join := [(42, [])], anyOrder := [], pure := [] } (by rw [laws_a2At_eq]; exact h)

/-- impl.ListKey (18) -/
def impl_ListKey (C : Comb) (x0 : Sl) : C.St :=
  C.new ty_impl_Key (.agg (Array.replicate 32 (.int .u8 0))) fun b2 =>
  cond (decide ((x0.n : Int) > 256)) (
    C.st 32 (Addr.mk b2 0 none) (.agg (Array.replicate 32 (.int .u8 0))) <|
    C.ld .agg 32 (Addr.mk b2 0 none) fun z2 =>
    C.ret (.tuple #[(.agg z2), (.int .i64 3)])
  ) (
    C.call n_impl_listKey [(.slice x0.a x0.n x0.c)] [.agg] fun r9 =>
    C.st 32 (Addr.mk b2 0 none) (.agg r9) <|
    C.ld .agg 32 (Addr.mk b2 0 none) fun z4 =>
    C.ret (.tuple #[(.agg z4), (.int .i64 0)])
  )
theorem impl_ListKey_eq (C : Comb) (x0 : Sl) : fT C Try.prog { loop := [], join := [], anyOrder := [], pure := [] } n_impl_ListKey [(.slice x0.a x0.n x0.c)] = impl_ListKey C x0 := by kernel_rfl
theorem impl_ListKey_calls {R : Value → World → Prop} {w : World} (x0 : Sl) (h : (impl_ListKey (real Try.prog R) x0 : World → Prop) w) :
    Calls Try.prog n_impl_ListKey [(.slice x0.a x0.n x0.c)].toArray w fun e w' => ∃ v, e = .returned v ∧ R v w' := fT_sound mixed { loop := [], join := [], anyOrder := [], pure := [] } (by rw [impl_ListKey_eq]; exact h)

/-- impl.GrowthProof (19) -/
def impl_GrowthProof (C : Comb) (x0 : Sl) (x1 : Int) : C.St :=
  cond (decide ((x0.n : Int) > 256)) (
    C.ret (.tuple #[(.slice none 0 0), (.int .i64 3)])
  ) (
    C.call n_impl_size_impl_Key [(.slice x0.a x0.n x0.c)] [(.int .i64)] fun r13 =>
    C.call n_impl_within [(.int .i64 x1), (.int .i64 1), (.int .i64 r13)] [.bool] fun r14 =>
    cond (!r14) (
      C.ret (.tuple #[(.slice none 0 0), (.int .i64 2)])
    ) (
      C.sl x0.a x0.n x0.c 32 none (some x1) none fun y18 =>
      C.call n_impl_peaks [(.slice y18.a y18.n y18.c)] [.slice] fun r19 =>
      C.call n_impl_rangeProof [(.slice x0.a x0.n x0.c), (.int .i64 0), (.int .i64 x1)] [.slice] fun r22 =>
      C.sem (Builtin.append_ #[ty_sl_impl_Key, ty_sl_impl_Key] ty_sl_impl_Key #[(.slice r19.a r19.n r19.c), (.slice r22.a r22.n r22.c)]) .slice fun y23 =>
      C.ret (.tuple #[(.slice y23.a y23.n y23.c), (.int .i64 0)])
    )
  )
theorem impl_GrowthProof_eq (C : Comb) (x0 : Sl) (x1 : Int) : fT C Try.prog { loop := [], join := [], anyOrder := [], pure := [] } n_impl_GrowthProof [(.slice x0.a x0.n x0.c), (.int .i64 x1)] = impl_GrowthProof C x0 x1 := by kernel_rfl
theorem impl_GrowthProof_calls {R : Value → World → Prop} {w : World} (x0 : Sl) (x1 : Int) (h : (impl_GrowthProof (real Try.prog R) x0 x1 : World → Prop) w) :
    Calls Try.prog n_impl_GrowthProof [(.slice x0.a x0.n x0.c), (.int .i64 x1)].toArray w fun e w' => ∃ v, e = .returned v ∧ R v w' := fT_sound mixed { loop := [], join := [], anyOrder := [], pure := [] } (by rw [impl_GrowthProof_eq]; exact h)

/-- impl.RangeProof (20) -/
def impl_RangeProof (C : Comb) (x0 : Sl) (x1 : Int) (x2 : Int) : C.St :=
  cond (decide ((x0.n : Int) > 256)) (
    C.ret (.tuple #[(.slice none 0 0), (.int .i64 3)])
  ) (
    cond (decide (x1 < 0)) (
      C.ret (.tuple #[(.slice none 0 0), (.int .i64 2)])
    ) (
      cond (decide (x1 ≥ x2)) (
        C.ret (.tuple #[(.slice none 0 0), (.int .i64 2)])
      ) (
        C.call n_impl_size_impl_Key [(.slice x0.a x0.n x0.c)] [(.int .i64)] fun r23 =>
        cond (decide (x2 > r23)) (
          C.ret (.tuple #[(.slice none 0 0), (.int .i64 2)])
        ) (
          C.call n_impl_rangeProof [(.slice x0.a x0.n x0.c), (.int .i64 x1), (.int .i64 x2)] [.slice] fun r29 =>
          C.ret (.tuple #[(.slice r29.a r29.n r29.c), (.int .i64 0)])
        )
      )
    )
  )
theorem impl_RangeProof_eq (C : Comb) (x0 : Sl) (x1 : Int) (x2 : Int) : fT C Try.prog { loop := [], join := [], anyOrder := [], pure := [] } n_impl_RangeProof [(.slice x0.a x0.n x0.c), (.int .i64 x1), (.int .i64 x2)] = impl_RangeProof C x0 x1 x2 := by kernel_rfl
theorem impl_RangeProof_calls {R : Value → World → Prop} {w : World} (x0 : Sl) (x1 : Int) (x2 : Int) (h : (impl_RangeProof (real Try.prog R) x0 x1 x2 : World → Prop) w) :
    Calls Try.prog n_impl_RangeProof [(.slice x0.a x0.n x0.c), (.int .i64 x1), (.int .i64 x2)].toArray w fun e w' => ∃ v, e = .returned v ∧ R v w' := fT_sound mixed { loop := [], join := [], anyOrder := [], pure := [] } (by rw [impl_RangeProof_eq]; exact h)

/-- impl.TreeDepth (21) -/
def impl_TreeDepth (C : Comb) (x0 : Int) (x1 : Int) : C.St :=
  C.call n_impl_isLeaves [(.int .i64 x0)] [.bool] fun r7 =>
  cond (!r7) (
    C.ret (.tuple #[(.int .i64 0), (.int .i64 2)])
  ) (
    C.call n_impl_within [(.int .i64 x1), (.int .i64 0), (.int .i64 (IntKind.wrap .i64 (x0 - 1)))] [.bool] fun r13 =>
    cond (!r13) (
      C.ret (.tuple #[(.int .i64 0), (.int .i64 2)])
    ) (
      C.call n_impl_sides [(.int .i64 x0), (.int .i64 x1)] [.slice] fun r18 =>
      C.call n_impl_size_bool [(.slice r18.a r18.n r18.c)] [(.int .i64)] fun r19 =>
      C.ret (.tuple #[(.int .i64 r19), (.int .i64 0)])
    )
  )
theorem impl_TreeDepth_eq (C : Comb) (x0 : Int) (x1 : Int) : fT C Try.prog { loop := [], join := [], anyOrder := [], pure := [] } n_impl_TreeDepth [(.int .i64 x0), (.int .i64 x1)] = impl_TreeDepth C x0 x1 := by kernel_rfl
theorem impl_TreeDepth_calls {R : Value → World → Prop} {w : World} (x0 : Int) (x1 : Int) (h : (impl_TreeDepth (real Try.prog R) x0 x1 : World → Prop) w) :
    Calls Try.prog n_impl_TreeDepth [(.int .i64 x0), (.int .i64 x1)].toArray w fun e w' => ∃ v, e = .returned v ∧ R v w' := fT_sound mixed { loop := [], join := [], anyOrder := [], pure := [] } (by rw [impl_TreeDepth_eq]; exact h)

/-- impl.ClashOf (22) -/
def impl_ClashOf (C : Comb) (x0 : Sl) (x1 : Sl) : C.St :=
  C.new ty_impl_Clash (.agg (Array.replicate 128 (.int .u8 0))) fun b4 =>
  C.join (TL [.bool]) (embL [.bool]) (fun s2 => C.any fun _ =>
      cond s2 (
        C.pur (Instr.build ty_impl_Clash #[]) .agg fun y15 =>
        C.st 128 (Addr.mk b4 0 none) (.agg y15) <|
        C.ld .agg 128 (Addr.mk b4 0 none) fun z4 =>
        C.ret (.tuple #[(.agg z4), (.int .i64 3)])
      ) (
        C.join (TL [.bool]) (embL [.bool]) (fun s8 => C.any fun _ =>
            cond s8 (
              C.pur (Instr.build ty_impl_Clash #[]) .agg fun y34 =>
              C.st 128 (Addr.mk b4 0 none) (.agg y34) <|
              C.ld .agg 128 (Addr.mk b4 0 none) fun z10 =>
              C.ret (.tuple #[(.agg z10), (.int .i64 4)])
            ) (
              C.call n_slices_Equal_sl_impl_Key_impl_Key [(.slice x0.a x0.n x0.c), (.slice x1.a x1.n x1.c)] [.bool] fun r38 =>
              cond r38 (
                C.pur (Instr.build ty_impl_Clash #[]) .agg fun y39 =>
                C.st 128 (Addr.mk b4 0 none) (.agg y39) <|
                C.ld .agg 128 (Addr.mk b4 0 none) fun z13 =>
                C.ret (.tuple #[(.agg z13), (.int .i64 6)])
              ) (
                C.call n_impl_clash [(.slice x0.a x0.n x0.c), (.slice x1.a x1.n x1.c)] [.agg] fun r42 =>
                C.st 128 (Addr.mk b4 0 none) (.agg r42) <|
                C.ld .agg 128 (Addr.mk b4 0 none) fun z15 =>
                C.ret (.tuple #[(.agg z15), (.int .i64 0)])
              )
            )
          ) fun jt =>
        cond ((x0.n : Int) != (x1.n : Int)) (
          jt [(.bool true)]
        ) (
          cond ((x0.n : Int) == 0) (
            jt [(.bool true)]
          ) (
            C.call n_impl_listKey [(.slice x0.a x0.n x0.c)] [.agg] fun r29 =>
            C.call n_impl_listKey [(.slice x1.a x1.n x1.c)] [.agg] fun r31 =>
            C.pur (eqB .neq ty_impl_Key (.tmp 29) (.tmp 31) (.agg r29) (.agg r31)) .bool fun y32 =>
            jt [(.bool y32)]
          )
        )
      )
    ) fun jt =>
  cond (decide ((x0.n : Int) > 256)) (
    jt [(.bool true)]
  ) (
    jt [(.bool (decide ((x1.n : Int) > 256)))]
  )
theorem impl_ClashOf_eq (C : Comb) (x0 : Sl) (x1 : Sl) : fT C Try.prog { loop := [], join := [(4, [(6, .bool)]), (10, [(16, .bool)])], anyOrder := [], pure := [] } n_impl_ClashOf [(.slice x0.a x0.n x0.c), (.slice x1.a x1.n x1.c)] = impl_ClashOf C x0 x1 := by kernel_rfl
theorem impl_ClashOf_calls {R : Value → World → Prop} {w : World} (x0 : Sl) (x1 : Sl) (h : (impl_ClashOf (real Try.prog R) x0 x1 : World → Prop) w) :
    Calls Try.prog n_impl_ClashOf [(.slice x0.a x0.n x0.c), (.slice x1.a x1.n x1.c)].toArray w fun e w' => ∃ v, e = .returned v ∧ R v w' := fT_sound mixed { loop := [], join := [(4, [(6, .bool)]), (10, [(16, .bool)])], anyOrder := [], pure := [] } (by rw [impl_ClashOf_eq]; exact h)

/-- spec.SameKeys (23) -/
def spec_SameKeys (C : Comb) (x0 : Sl) (x1 : Sl) : C.St :=
  C.call n_spec_l03Lists [(.slice x0.a x0.n x0.c), (.slice x1.a x1.n x1.c)] [.bool] fun r7 =>
  C.ret (.bool r7)
theorem spec_SameKeys_eq (C : Comb) (x0 : Sl) (x1 : Sl) : fT C Try.prog { loop := [], join := [], anyOrder := [], pure := [] } n_spec_SameKeys [(.slice x0.a x0.n x0.c), (.slice x1.a x1.n x1.c)] = spec_SameKeys C x0 x1 := by kernel_rfl
theorem spec_SameKeys_calls {R : Value → World → Prop} {w : World} (x0 : Sl) (x1 : Sl) (h : (spec_SameKeys (real Try.prog R) x0 x1 : World → Prop) w) :
    Calls Try.prog n_spec_SameKeys [(.slice x0.a x0.n x0.c), (.slice x1.a x1.n x1.c)].toArray w fun e w' => ∃ v, e = .returned v ∧ R v w' := fT_sound mixed { loop := [], join := [], anyOrder := [], pure := [] } (by rw [spec_SameKeys_eq]; exact h)

/-- spec.ValidClash (24) -/
def spec_ValidClash (C : Comb) (x0 : Array Value) : C.St :=
  C.new ty_impl_Clash (.agg x0) fun b1 =>
  C.join (TL [.bool]) (embL [.bool]) (fun s8 => C.any fun _ =>
      C.draw <|
      cond s8 (
        C.all [
          (C.ld .agg 32 ((Addr.mk b1 0 none).add 0) fun v19 =>
           C.all [
             (C.ld .agg 32 ((Addr.mk b1 0 none).add 32) fun v21 =>
              C.all [
                (C.call n_spec_l03Node [(.agg v19), (.agg v21)] [.agg] fun r22 =>
                 C.all [
                   (C.ld .agg 32 ((Addr.mk b1 0 none).add 64) fun v24 =>
                    C.ld .agg 32 ((Addr.mk b1 0 none).add 96) fun v26 =>
                    C.call n_spec_l03Node [(.agg v24), (.agg v26)] [.agg] fun r27 =>
                    C.pur (eqB .eql ty_impl_Key (.tmp 22) (.tmp 27) (.agg r22) (.agg r27)) .bool fun y28 =>
                    C.ret (.bool y28)),
                   (C.ld .agg 32 ((Addr.mk b1 0 none).add 96) fun v26 =>
                    C.ld .agg 32 ((Addr.mk b1 0 none).add 64) fun v24 =>
                    C.call n_spec_l03Node [(.agg v24), (.agg v26)] [.agg] fun r27 =>
                    C.pur (eqB .eql ty_impl_Key (.tmp 22) (.tmp 27) (.agg r22) (.agg r27)) .bool fun y28 =>
                    C.ret (.bool y28))]),
                (C.ld .agg 32 ((Addr.mk b1 0 none).add 64) fun v24 =>
                 C.all [
                   (C.call n_spec_l03Node [(.agg v19), (.agg v21)] [.agg] fun r22 =>
                    C.ld .agg 32 ((Addr.mk b1 0 none).add 96) fun v26 =>
                    C.call n_spec_l03Node [(.agg v24), (.agg v26)] [.agg] fun r27 =>
                    C.pur (eqB .eql ty_impl_Key (.tmp 22) (.tmp 27) (.agg r22) (.agg r27)) .bool fun y28 =>
                    C.ret (.bool y28)),
                   (C.ld .agg 32 ((Addr.mk b1 0 none).add 96) fun v26 =>
                    C.call n_spec_l03Node [(.agg v19), (.agg v21)] [.agg] fun r22 =>
                    C.call n_spec_l03Node [(.agg v24), (.agg v26)] [.agg] fun r27 =>
                    C.pur (eqB .eql ty_impl_Key (.tmp 22) (.tmp 27) (.agg r22) (.agg r27)) .bool fun y28 =>
                    C.ret (.bool y28))]),
                (C.ld .agg 32 ((Addr.mk b1 0 none).add 96) fun v26 =>
                 C.all [
                   (C.call n_spec_l03Node [(.agg v19), (.agg v21)] [.agg] fun r22 =>
                    C.ld .agg 32 ((Addr.mk b1 0 none).add 64) fun v24 =>
                    C.call n_spec_l03Node [(.agg v24), (.agg v26)] [.agg] fun r27 =>
                    C.pur (eqB .eql ty_impl_Key (.tmp 22) (.tmp 27) (.agg r22) (.agg r27)) .bool fun y28 =>
                    C.ret (.bool y28)),
                   (C.ld .agg 32 ((Addr.mk b1 0 none).add 64) fun v24 =>
                    C.call n_spec_l03Node [(.agg v19), (.agg v21)] [.agg] fun r22 =>
                    C.call n_spec_l03Node [(.agg v24), (.agg v26)] [.agg] fun r27 =>
                    C.pur (eqB .eql ty_impl_Key (.tmp 22) (.tmp 27) (.agg r22) (.agg r27)) .bool fun y28 =>
                    C.ret (.bool y28))])]),
             (C.ld .agg 32 ((Addr.mk b1 0 none).add 64) fun v24 =>
              C.all [
                (C.ld .agg 32 ((Addr.mk b1 0 none).add 32) fun v21 =>
                 C.all [
                   (C.call n_spec_l03Node [(.agg v19), (.agg v21)] [.agg] fun r22 =>
                    C.ld .agg 32 ((Addr.mk b1 0 none).add 96) fun v26 =>
                    C.call n_spec_l03Node [(.agg v24), (.agg v26)] [.agg] fun r27 =>
                    C.pur (eqB .eql ty_impl_Key (.tmp 22) (.tmp 27) (.agg r22) (.agg r27)) .bool fun y28 =>
                    C.ret (.bool y28)),
                   (C.ld .agg 32 ((Addr.mk b1 0 none).add 96) fun v26 =>
                    C.call n_spec_l03Node [(.agg v19), (.agg v21)] [.agg] fun r22 =>
                    C.call n_spec_l03Node [(.agg v24), (.agg v26)] [.agg] fun r27 =>
                    C.pur (eqB .eql ty_impl_Key (.tmp 22) (.tmp 27) (.agg r22) (.agg r27)) .bool fun y28 =>
                    C.ret (.bool y28))]),
                (C.ld .agg 32 ((Addr.mk b1 0 none).add 96) fun v26 =>
                 C.ld .agg 32 ((Addr.mk b1 0 none).add 32) fun v21 =>
                 C.call n_spec_l03Node [(.agg v19), (.agg v21)] [.agg] fun r22 =>
                 C.call n_spec_l03Node [(.agg v24), (.agg v26)] [.agg] fun r27 =>
                 C.pur (eqB .eql ty_impl_Key (.tmp 22) (.tmp 27) (.agg r22) (.agg r27)) .bool fun y28 =>
                 C.ret (.bool y28))]),
             (C.ld .agg 32 ((Addr.mk b1 0 none).add 96) fun v26 =>
              C.all [
                (C.ld .agg 32 ((Addr.mk b1 0 none).add 32) fun v21 =>
                 C.all [
                   (C.call n_spec_l03Node [(.agg v19), (.agg v21)] [.agg] fun r22 =>
                    C.ld .agg 32 ((Addr.mk b1 0 none).add 64) fun v24 =>
                    C.call n_spec_l03Node [(.agg v24), (.agg v26)] [.agg] fun r27 =>
                    C.pur (eqB .eql ty_impl_Key (.tmp 22) (.tmp 27) (.agg r22) (.agg r27)) .bool fun y28 =>
                    C.ret (.bool y28)),
                   (C.ld .agg 32 ((Addr.mk b1 0 none).add 64) fun v24 =>
                    C.call n_spec_l03Node [(.agg v19), (.agg v21)] [.agg] fun r22 =>
                    C.call n_spec_l03Node [(.agg v24), (.agg v26)] [.agg] fun r27 =>
                    C.pur (eqB .eql ty_impl_Key (.tmp 22) (.tmp 27) (.agg r22) (.agg r27)) .bool fun y28 =>
                    C.ret (.bool y28))]),
                (C.ld .agg 32 ((Addr.mk b1 0 none).add 64) fun v24 =>
                 C.ld .agg 32 ((Addr.mk b1 0 none).add 32) fun v21 =>
                 C.call n_spec_l03Node [(.agg v19), (.agg v21)] [.agg] fun r22 =>
                 C.call n_spec_l03Node [(.agg v24), (.agg v26)] [.agg] fun r27 =>
                 C.pur (eqB .eql ty_impl_Key (.tmp 22) (.tmp 27) (.agg r22) (.agg r27)) .bool fun y28 =>
                 C.ret (.bool y28))])]),
          (C.ld .agg 32 ((Addr.mk b1 0 none).add 32) fun v21 =>
           C.all [
             (C.ld .agg 32 ((Addr.mk b1 0 none).add 0) fun v19 =>
              C.all [
                (C.call n_spec_l03Node [(.agg v19), (.agg v21)] [.agg] fun r22 =>
                 C.all [
                   (C.ld .agg 32 ((Addr.mk b1 0 none).add 64) fun v24 =>
                    C.ld .agg 32 ((Addr.mk b1 0 none).add 96) fun v26 =>
                    C.call n_spec_l03Node [(.agg v24), (.agg v26)] [.agg] fun r27 =>
                    C.pur (eqB .eql ty_impl_Key (.tmp 22) (.tmp 27) (.agg r22) (.agg r27)) .bool fun y28 =>
                    C.ret (.bool y28)),
                   (C.ld .agg 32 ((Addr.mk b1 0 none).add 96) fun v26 =>
                    C.ld .agg 32 ((Addr.mk b1 0 none).add 64) fun v24 =>
                    C.call n_spec_l03Node [(.agg v24), (.agg v26)] [.agg] fun r27 =>
                    C.pur (eqB .eql ty_impl_Key (.tmp 22) (.tmp 27) (.agg r22) (.agg r27)) .bool fun y28 =>
                    C.ret (.bool y28))]),
                (C.ld .agg 32 ((Addr.mk b1 0 none).add 64) fun v24 =>
                 C.all [
                   (C.call n_spec_l03Node [(.agg v19), (.agg v21)] [.agg] fun r22 =>
                    C.ld .agg 32 ((Addr.mk b1 0 none).add 96) fun v26 =>
                    C.call n_spec_l03Node [(.agg v24), (.agg v26)] [.agg] fun r27 =>
                    C.pur (eqB .eql ty_impl_Key (.tmp 22) (.tmp 27) (.agg r22) (.agg r27)) .bool fun y28 =>
                    C.ret (.bool y28)),
                   (C.ld .agg 32 ((Addr.mk b1 0 none).add 96) fun v26 =>
                    C.call n_spec_l03Node [(.agg v19), (.agg v21)] [.agg] fun r22 =>
                    C.call n_spec_l03Node [(.agg v24), (.agg v26)] [.agg] fun r27 =>
                    C.pur (eqB .eql ty_impl_Key (.tmp 22) (.tmp 27) (.agg r22) (.agg r27)) .bool fun y28 =>
                    C.ret (.bool y28))]),
                (C.ld .agg 32 ((Addr.mk b1 0 none).add 96) fun v26 =>
                 C.all [
                   (C.call n_spec_l03Node [(.agg v19), (.agg v21)] [.agg] fun r22 =>
                    C.ld .agg 32 ((Addr.mk b1 0 none).add 64) fun v24 =>
                    C.call n_spec_l03Node [(.agg v24), (.agg v26)] [.agg] fun r27 =>
                    C.pur (eqB .eql ty_impl_Key (.tmp 22) (.tmp 27) (.agg r22) (.agg r27)) .bool fun y28 =>
                    C.ret (.bool y28)),
                   (C.ld .agg 32 ((Addr.mk b1 0 none).add 64) fun v24 =>
                    C.call n_spec_l03Node [(.agg v19), (.agg v21)] [.agg] fun r22 =>
                    C.call n_spec_l03Node [(.agg v24), (.agg v26)] [.agg] fun r27 =>
                    C.pur (eqB .eql ty_impl_Key (.tmp 22) (.tmp 27) (.agg r22) (.agg r27)) .bool fun y28 =>
                    C.ret (.bool y28))])]),
             (C.ld .agg 32 ((Addr.mk b1 0 none).add 64) fun v24 =>
              C.all [
                (C.ld .agg 32 ((Addr.mk b1 0 none).add 0) fun v19 =>
                 C.all [
                   (C.call n_spec_l03Node [(.agg v19), (.agg v21)] [.agg] fun r22 =>
                    C.ld .agg 32 ((Addr.mk b1 0 none).add 96) fun v26 =>
                    C.call n_spec_l03Node [(.agg v24), (.agg v26)] [.agg] fun r27 =>
                    C.pur (eqB .eql ty_impl_Key (.tmp 22) (.tmp 27) (.agg r22) (.agg r27)) .bool fun y28 =>
                    C.ret (.bool y28)),
                   (C.ld .agg 32 ((Addr.mk b1 0 none).add 96) fun v26 =>
                    C.call n_spec_l03Node [(.agg v19), (.agg v21)] [.agg] fun r22 =>
                    C.call n_spec_l03Node [(.agg v24), (.agg v26)] [.agg] fun r27 =>
                    C.pur (eqB .eql ty_impl_Key (.tmp 22) (.tmp 27) (.agg r22) (.agg r27)) .bool fun y28 =>
                    C.ret (.bool y28))]),
                (C.ld .agg 32 ((Addr.mk b1 0 none).add 96) fun v26 =>
                 C.ld .agg 32 ((Addr.mk b1 0 none).add 0) fun v19 =>
                 C.call n_spec_l03Node [(.agg v19), (.agg v21)] [.agg] fun r22 =>
                 C.call n_spec_l03Node [(.agg v24), (.agg v26)] [.agg] fun r27 =>
                 C.pur (eqB .eql ty_impl_Key (.tmp 22) (.tmp 27) (.agg r22) (.agg r27)) .bool fun y28 =>
                 C.ret (.bool y28))]),
             (C.ld .agg 32 ((Addr.mk b1 0 none).add 96) fun v26 =>
              C.all [
                (C.ld .agg 32 ((Addr.mk b1 0 none).add 0) fun v19 =>
                 C.all [
                   (C.call n_spec_l03Node [(.agg v19), (.agg v21)] [.agg] fun r22 =>
                    C.ld .agg 32 ((Addr.mk b1 0 none).add 64) fun v24 =>
                    C.call n_spec_l03Node [(.agg v24), (.agg v26)] [.agg] fun r27 =>
                    C.pur (eqB .eql ty_impl_Key (.tmp 22) (.tmp 27) (.agg r22) (.agg r27)) .bool fun y28 =>
                    C.ret (.bool y28)),
                   (C.ld .agg 32 ((Addr.mk b1 0 none).add 64) fun v24 =>
                    C.call n_spec_l03Node [(.agg v19), (.agg v21)] [.agg] fun r22 =>
                    C.call n_spec_l03Node [(.agg v24), (.agg v26)] [.agg] fun r27 =>
                    C.pur (eqB .eql ty_impl_Key (.tmp 22) (.tmp 27) (.agg r22) (.agg r27)) .bool fun y28 =>
                    C.ret (.bool y28))]),
                (C.ld .agg 32 ((Addr.mk b1 0 none).add 64) fun v24 =>
                 C.ld .agg 32 ((Addr.mk b1 0 none).add 0) fun v19 =>
                 C.call n_spec_l03Node [(.agg v19), (.agg v21)] [.agg] fun r22 =>
                 C.call n_spec_l03Node [(.agg v24), (.agg v26)] [.agg] fun r27 =>
                 C.pur (eqB .eql ty_impl_Key (.tmp 22) (.tmp 27) (.agg r22) (.agg r27)) .bool fun y28 =>
                 C.ret (.bool y28))])]),
          (C.ld .agg 32 ((Addr.mk b1 0 none).add 64) fun v24 =>
           C.all [
             (C.ld .agg 32 ((Addr.mk b1 0 none).add 0) fun v19 =>
              C.all [
                (C.ld .agg 32 ((Addr.mk b1 0 none).add 32) fun v21 =>
                 C.all [
                   (C.call n_spec_l03Node [(.agg v19), (.agg v21)] [.agg] fun r22 =>
                    C.ld .agg 32 ((Addr.mk b1 0 none).add 96) fun v26 =>
                    C.call n_spec_l03Node [(.agg v24), (.agg v26)] [.agg] fun r27 =>
                    C.pur (eqB .eql ty_impl_Key (.tmp 22) (.tmp 27) (.agg r22) (.agg r27)) .bool fun y28 =>
                    C.ret (.bool y28)),
                   (C.ld .agg 32 ((Addr.mk b1 0 none).add 96) fun v26 =>
                    C.call n_spec_l03Node [(.agg v19), (.agg v21)] [.agg] fun r22 =>
                    C.call n_spec_l03Node [(.agg v24), (.agg v26)] [.agg] fun r27 =>
                    C.pur (eqB .eql ty_impl_Key (.tmp 22) (.tmp 27) (.agg r22) (.agg r27)) .bool fun y28 =>
                    C.ret (.bool y28))]),
                (C.ld .agg 32 ((Addr.mk b1 0 none).add 96) fun v26 =>
                 C.ld .agg 32 ((Addr.mk b1 0 none).add 32) fun v21 =>
                 C.call n_spec_l03Node [(.agg v19), (.agg v21)] [.agg] fun r22 =>
                 C.call n_spec_l03Node [(.agg v24), (.agg v26)] [.agg] fun r27 =>
                 C.pur (eqB .eql ty_impl_Key (.tmp 22) (.tmp 27) (.agg r22) (.agg r27)) .bool fun y28 =>
                 C.ret (.bool y28))]),
             (C.ld .agg 32 ((Addr.mk b1 0 none).add 32) fun v21 =>
              C.all [
                (C.ld .agg 32 ((Addr.mk b1 0 none).add 0) fun v19 =>
                 C.all [
                   (C.call n_spec_l03Node [(.agg v19), (.agg v21)] [.agg] fun r22 =>
                    C.ld .agg 32 ((Addr.mk b1 0 none).add 96) fun v26 =>
                    C.call n_spec_l03Node [(.agg v24), (.agg v26)] [.agg] fun r27 =>
                    C.pur (eqB .eql ty_impl_Key (.tmp 22) (.tmp 27) (.agg r22) (.agg r27)) .bool fun y28 =>
                    C.ret (.bool y28)),
                   (C.ld .agg 32 ((Addr.mk b1 0 none).add 96) fun v26 =>
                    C.call n_spec_l03Node [(.agg v19), (.agg v21)] [.agg] fun r22 =>
                    C.call n_spec_l03Node [(.agg v24), (.agg v26)] [.agg] fun r27 =>
                    C.pur (eqB .eql ty_impl_Key (.tmp 22) (.tmp 27) (.agg r22) (.agg r27)) .bool fun y28 =>
                    C.ret (.bool y28))]),
                (C.ld .agg 32 ((Addr.mk b1 0 none).add 96) fun v26 =>
                 C.ld .agg 32 ((Addr.mk b1 0 none).add 0) fun v19 =>
                 C.call n_spec_l03Node [(.agg v19), (.agg v21)] [.agg] fun r22 =>
                 C.call n_spec_l03Node [(.agg v24), (.agg v26)] [.agg] fun r27 =>
                 C.pur (eqB .eql ty_impl_Key (.tmp 22) (.tmp 27) (.agg r22) (.agg r27)) .bool fun y28 =>
                 C.ret (.bool y28))]),
             (C.ld .agg 32 ((Addr.mk b1 0 none).add 96) fun v26 =>
              C.all [
                (C.ld .agg 32 ((Addr.mk b1 0 none).add 0) fun v19 =>
                 C.ld .agg 32 ((Addr.mk b1 0 none).add 32) fun v21 =>
                 C.call n_spec_l03Node [(.agg v19), (.agg v21)] [.agg] fun r22 =>
                 C.call n_spec_l03Node [(.agg v24), (.agg v26)] [.agg] fun r27 =>
                 C.pur (eqB .eql ty_impl_Key (.tmp 22) (.tmp 27) (.agg r22) (.agg r27)) .bool fun y28 =>
                 C.ret (.bool y28)),
                (C.ld .agg 32 ((Addr.mk b1 0 none).add 32) fun v21 =>
                 C.ld .agg 32 ((Addr.mk b1 0 none).add 0) fun v19 =>
                 C.call n_spec_l03Node [(.agg v19), (.agg v21)] [.agg] fun r22 =>
                 C.call n_spec_l03Node [(.agg v24), (.agg v26)] [.agg] fun r27 =>
                 C.pur (eqB .eql ty_impl_Key (.tmp 22) (.tmp 27) (.agg r22) (.agg r27)) .bool fun y28 =>
                 C.ret (.bool y28))])]),
          (C.ld .agg 32 ((Addr.mk b1 0 none).add 96) fun v26 =>
           C.all [
             (C.ld .agg 32 ((Addr.mk b1 0 none).add 0) fun v19 =>
              C.all [
                (C.ld .agg 32 ((Addr.mk b1 0 none).add 32) fun v21 =>
                 C.all [
                   (C.call n_spec_l03Node [(.agg v19), (.agg v21)] [.agg] fun r22 =>
                    C.ld .agg 32 ((Addr.mk b1 0 none).add 64) fun v24 =>
                    C.call n_spec_l03Node [(.agg v24), (.agg v26)] [.agg] fun r27 =>
                    C.pur (eqB .eql ty_impl_Key (.tmp 22) (.tmp 27) (.agg r22) (.agg r27)) .bool fun y28 =>
                    C.ret (.bool y28)),
                   (C.ld .agg 32 ((Addr.mk b1 0 none).add 64) fun v24 =>
                    C.call n_spec_l03Node [(.agg v19), (.agg v21)] [.agg] fun r22 =>
                    C.call n_spec_l03Node [(.agg v24), (.agg v26)] [.agg] fun r27 =>
                    C.pur (eqB .eql ty_impl_Key (.tmp 22) (.tmp 27) (.agg r22) (.agg r27)) .bool fun y28 =>
                    C.ret (.bool y28))]),
                (C.ld .agg 32 ((Addr.mk b1 0 none).add 64) fun v24 =>
                 C.ld .agg 32 ((Addr.mk b1 0 none).add 32) fun v21 =>
                 C.call n_spec_l03Node [(.agg v19), (.agg v21)] [.agg] fun r22 =>
                 C.call n_spec_l03Node [(.agg v24), (.agg v26)] [.agg] fun r27 =>
                 C.pur (eqB .eql ty_impl_Key (.tmp 22) (.tmp 27) (.agg r22) (.agg r27)) .bool fun y28 =>
                 C.ret (.bool y28))]),
             (C.ld .agg 32 ((Addr.mk b1 0 none).add 32) fun v21 =>
              C.all [
                (C.ld .agg 32 ((Addr.mk b1 0 none).add 0) fun v19 =>
                 C.all [
                   (C.call n_spec_l03Node [(.agg v19), (.agg v21)] [.agg] fun r22 =>
                    C.ld .agg 32 ((Addr.mk b1 0 none).add 64) fun v24 =>
                    C.call n_spec_l03Node [(.agg v24), (.agg v26)] [.agg] fun r27 =>
                    C.pur (eqB .eql ty_impl_Key (.tmp 22) (.tmp 27) (.agg r22) (.agg r27)) .bool fun y28 =>
                    C.ret (.bool y28)),
                   (C.ld .agg 32 ((Addr.mk b1 0 none).add 64) fun v24 =>
                    C.call n_spec_l03Node [(.agg v19), (.agg v21)] [.agg] fun r22 =>
                    C.call n_spec_l03Node [(.agg v24), (.agg v26)] [.agg] fun r27 =>
                    C.pur (eqB .eql ty_impl_Key (.tmp 22) (.tmp 27) (.agg r22) (.agg r27)) .bool fun y28 =>
                    C.ret (.bool y28))]),
                (C.ld .agg 32 ((Addr.mk b1 0 none).add 64) fun v24 =>
                 C.ld .agg 32 ((Addr.mk b1 0 none).add 0) fun v19 =>
                 C.call n_spec_l03Node [(.agg v19), (.agg v21)] [.agg] fun r22 =>
                 C.call n_spec_l03Node [(.agg v24), (.agg v26)] [.agg] fun r27 =>
                 C.pur (eqB .eql ty_impl_Key (.tmp 22) (.tmp 27) (.agg r22) (.agg r27)) .bool fun y28 =>
                 C.ret (.bool y28))]),
             (C.ld .agg 32 ((Addr.mk b1 0 none).add 64) fun v24 =>
              C.all [
                (C.ld .agg 32 ((Addr.mk b1 0 none).add 0) fun v19 =>
                 C.ld .agg 32 ((Addr.mk b1 0 none).add 32) fun v21 =>
                 C.call n_spec_l03Node [(.agg v19), (.agg v21)] [.agg] fun r22 =>
                 C.call n_spec_l03Node [(.agg v24), (.agg v26)] [.agg] fun r27 =>
                 C.pur (eqB .eql ty_impl_Key (.tmp 22) (.tmp 27) (.agg r22) (.agg r27)) .bool fun y28 =>
                 C.ret (.bool y28)),
                (C.ld .agg 32 ((Addr.mk b1 0 none).add 32) fun v21 =>
                 C.ld .agg 32 ((Addr.mk b1 0 none).add 0) fun v19 =>
                 C.call n_spec_l03Node [(.agg v19), (.agg v21)] [.agg] fun r22 =>
                 C.call n_spec_l03Node [(.agg v24), (.agg v26)] [.agg] fun r27 =>
                 C.pur (eqB .eql ty_impl_Key (.tmp 22) (.tmp 27) (.agg r22) (.agg r27)) .bool fun y28 =>
                 C.ret (.bool y28))])])]
      ) (
        C.all [
          (C.all [
             (C.all [
                (C.all [
                   (C.ret (.bool false)),
                   (C.ret (.bool false))]),
                (C.all [
                   (C.ret (.bool false)),
                   (C.ret (.bool false))]),
                (C.all [
                   (C.ret (.bool false)),
                   (C.ret (.bool false))])]),
             (C.all [
                (C.all [
                   (C.ret (.bool false)),
                   (C.ret (.bool false))]),
                (C.ret (.bool false))]),
             (C.all [
                (C.all [
                   (C.ret (.bool false)),
                   (C.ret (.bool false))]),
                (C.ret (.bool false))])]),
          (C.all [
             (C.all [
                (C.all [
                   (C.ret (.bool false)),
                   (C.ret (.bool false))]),
                (C.all [
                   (C.ret (.bool false)),
                   (C.ret (.bool false))]),
                (C.all [
                   (C.ret (.bool false)),
                   (C.ret (.bool false))])]),
             (C.all [
                (C.all [
                   (C.ret (.bool false)),
                   (C.ret (.bool false))]),
                (C.ret (.bool false))]),
             (C.all [
                (C.all [
                   (C.ret (.bool false)),
                   (C.ret (.bool false))]),
                (C.ret (.bool false))])]),
          (C.all [
             (C.all [
                (C.all [
                   (C.ret (.bool false)),
                   (C.ret (.bool false))]),
                (C.ret (.bool false))]),
             (C.all [
                (C.all [
                   (C.ret (.bool false)),
                   (C.ret (.bool false))]),
                (C.ret (.bool false))]),
             (C.all [
                (C.ret (.bool false)),
                (C.ret (.bool false))])]),
          (C.all [
             (C.all [
                (C.all [
                   (C.ret (.bool false)),
                   (C.ret (.bool false))]),
                (C.ret (.bool false))]),
             (C.all [
                (C.all [
                   (C.ret (.bool false)),
                   (C.ret (.bool false))]),
                (C.ret (.bool false))]),
             (C.all [
                (C.ret (.bool false)),
                (C.ret (.bool false))])])]
      )
    ) fun jt =>
  C.ld .agg 32 ((Addr.mk b1 0 none).add 0) fun v5 =>
  C.ld .agg 32 ((Addr.mk b1 0 none).add 64) fun v7 =>
  C.pur (eqB .neq ty_impl_Key (.tmp 5) (.tmp 7) (.agg v5) (.agg v7)) .bool fun y8 =>
  cond y8 (
    jt [(.bool true)]
  ) (
    C.ld .agg 32 ((Addr.mk b1 0 none).add 32) fun v11 =>
    C.ld .agg 32 ((Addr.mk b1 0 none).add 96) fun v13 =>
    C.pur (eqB .neq ty_impl_Key (.tmp 11) (.tmp 13) (.agg v11) (.agg v13)) .bool fun y14 =>
    jt [(.bool y14)]
  )
theorem spec_ValidClash_eq (C : Comb) (x0 : Array Value) : fT C Try.prog { loop := [], join := [(4, [(3, .bool)])], anyOrder := [2], pure := [] } n_spec_ValidClash [(.agg x0)] = spec_ValidClash C x0 := by kernel_rfl
theorem spec_ValidClash_calls {R : Value → World → Prop} {w : World} (x0 : Array Value) (h : (spec_ValidClash (real Try.prog R) x0 : World → Prop) w) :
    Calls Try.prog n_spec_ValidClash [(.agg x0)].toArray w fun e w' => ∃ v, e = .returned v ∧ R v w' := fT_sound mixed { loop := [], join := [(4, [(3, .bool)])], anyOrder := [2], pure := [] } (by rw [spec_ValidClash_eq]; exact h)

/-- spec.l00In (25) -/
def spec_l00In (C : Comb) (x0 : Int) (x1 : Int) (x2 : Int) : C.St :=
  cond (decide (x0 ≥ x1)) (
    C.ret (.bool (decide (x0 ≤ x2)))
  ) (
    C.ret (.bool false)
  )
theorem spec_l00In_eq (C : Comb) (x0 : Int) (x1 : Int) (x2 : Int) : fT C Try.prog { loop := [], join := [], anyOrder := [], pure := [] } n_spec_l00In [(.int .i64 x0), (.int .i64 x1), (.int .i64 x2)] = spec_l00In C x0 x1 x2 := by kernel_rfl
theorem spec_l00In_calls {R : Value → World → Prop} {w : World} (x0 : Int) (x1 : Int) (x2 : Int) (h : (spec_l00In (real Try.prog R) x0 x1 x2 : World → Prop) w) :
    Calls Try.prog n_spec_l00In [(.int .i64 x0), (.int .i64 x1), (.int .i64 x2)].toArray w fun e w' => ∃ v, e = .returned v ∧ R v w' := fT_sound mixed { loop := [], join := [], anyOrder := [], pure := [] } (by rw [spec_l00In_eq]; exact h)

/-- spec.l03Told (26) -/
def spec_l03Told (C : Comb) (x0 : Int) (x1 : Int) (x2 : Sl) (x3 : Sl) : C.St :=
  C.new ty_impl_Key (.agg (Array.replicate 32 (.int .u8 0))) fun b8 =>
  C.join (TL [.bool]) (embL [.bool]) (fun s2 => C.any fun _ =>
      cond s2 (
        cond ((x3.n : Int) == 0) (
          C.st 32 (Addr.mk b8 0 none) (.agg (Array.replicate 32 (.int .u8 0))) <|
          C.ld .agg 32 (Addr.mk b8 0 none) fun z3 =>
          C.ret (.tuple #[(.agg z3), (.slice x3.a x3.n x3.c), (.bool false)])
        ) (
          C.draw <|
          C.ix x3.a x3.n 32 0 fun p36 =>
          C.ld .agg 32 p36 fun v37 =>
          C.sl x3.a x3.n x3.c 32 (some 1) none none fun y39 =>
          C.st 32 (Addr.mk b8 0 none) (.agg v37) <|
          C.ld .agg 32 (Addr.mk b8 0 none) fun z7 =>
          C.ret (.tuple #[(.agg z7), (.slice y39.a y39.n y39.c), (.bool true)])
        )
      ) (
        cond (x0 == 1) (
          C.ix x2.a x2.n 32 (IntKind.wrap .i64 (0 - x1)) fun p45 =>
          C.ld .agg 32 p45 fun v46 =>
          C.st 32 (Addr.mk b8 0 none) (.agg v46) <|
          C.ld .agg 32 (Addr.mk b8 0 none) fun z10 =>
          C.ret (.tuple #[(.agg z10), (.slice x3.a x3.n x3.c), (.bool true)])
        ) (
          C.call n_spec_l03Half [(.int .i64 x0)] [(.int .i64)] fun r49 =>
          C.call n_spec_l03Told [(.int .i64 r49), (.int .i64 x1), (.slice x2.a x2.n x2.c), (.slice x3.a x3.n x3.c)] [.agg, .slice, .bool] fun r55 =>
          C.new ty_impl_Key (.agg (Array.replicate 32 (.int .u8 0))) fun b13 =>
          C.st 32 (Addr.mk b13 0 none) (.agg r55.1) <|
          cond (!r55.2.2) (
            C.st 32 (Addr.mk b8 0 none) (.agg (Array.replicate 32 (.int .u8 0))) <|
            C.ld .agg 32 (Addr.mk b8 0 none) fun z14 =>
            C.ret (.tuple #[(.agg z14), (.slice x3.a x3.n x3.c), (.bool false)])
          ) (
            C.call n_spec_l03Told [(.int .i64 (IntKind.wrap .i64 (x0 - r49))), (.int .i64 (IntKind.wrap .i64 (x1 - r49))), (.slice x2.a x2.n x2.c), (.slice r55.2.1.a r55.2.1.n r55.2.1.c)] [.agg, .slice, .bool] fun r72 =>
            C.new ty_impl_Key (.agg (Array.replicate 32 (.int .u8 0))) fun b16 =>
            C.st 32 (Addr.mk b16 0 none) (.agg r72.1) <|
            C.ld .agg 32 (Addr.mk b13 0 none) fun v76 =>
            C.ld .agg 32 (Addr.mk b16 0 none) fun v77 =>
            C.call n_spec_l03Node [(.agg v76), (.agg v77)] [.agg] fun r78 =>
            C.st 32 (Addr.mk b8 0 none) (.agg r78) <|
            C.ld .agg 32 (Addr.mk b8 0 none) fun z20 =>
            C.ret (.tuple #[(.agg z20), (.slice r72.2.1.a r72.2.1.n r72.2.1.c), (.bool r72.2.2)])
          )
        )
      )
    ) fun jt =>
  cond (decide ((IntKind.wrap .i64 (x1 + (x2.n : Int))) ≤ 0)) (
    jt [(.bool true)]
  ) (
    jt [(.bool (decide (x1 ≥ x0)))]
  )
theorem spec_l03Told_eq (C : Comb) (x0 : Int) (x1 : Int) (x2 : Sl) (x3 : Sl) : fT C Try.prog { loop := [], join := [(7, [(29, .bool)])], anyOrder := [5], pure := [] } n_spec_l03Told [(.int .i64 x0), (.int .i64 x1), (.slice x2.a x2.n x2.c), (.slice x3.a x3.n x3.c)] = spec_l03Told C x0 x1 x2 x3 := by kernel_rfl
theorem spec_l03Told_calls {R : Value → World → Prop} {w : World} (x0 : Int) (x1 : Int) (x2 : Sl) (x3 : Sl) (h : (spec_l03Told (real Try.prog R) x0 x1 x2 x3 : World → Prop) w) :
    Calls Try.prog n_spec_l03Told [(.int .i64 x0), (.int .i64 x1), (.slice x2.a x2.n x2.c), (.slice x3.a x3.n x3.c)].toArray w fun e w' => ∃ v, e = .returned v ∧ R v w' := fT_sound mixed { loop := [], join := [(7, [(29, .bool)])], anyOrder := [5], pure := [] } (by rw [spec_l03Told_eq]; exact h)

/-- impl.isLeaves (27) -/
def impl_isLeaves (C : Comb) (x0 : Int) : C.St :=
  C.call n_impl_within [(.int .i64 x0), (.int .i64 1), (.int .i64 256)] [.bool] fun r4 =>
  C.ret (.bool r4)
theorem impl_isLeaves_eq (C : Comb) (x0 : Int) : fT C Try.prog { loop := [], join := [], anyOrder := [], pure := [] } n_impl_isLeaves [(.int .i64 x0)] = impl_isLeaves C x0 := by kernel_rfl
theorem impl_isLeaves_calls {R : Value → World → Prop} {w : World} (x0 : Int) (h : (impl_isLeaves (real Try.prog R) x0 : World → Prop) w) :
    Calls Try.prog n_impl_isLeaves [(.int .i64 x0)].toArray w fun e w' => ∃ v, e = .returned v ∧ R v w' := fT_sound mixed { loop := [], join := [], anyOrder := [], pure := [] } (by rw [impl_isLeaves_eq]; exact h)

/-- impl.size[impl.Key] (28) -/
def impl_size_impl_Key (C : Comb) (x0 : Sl) : C.St :=
  C.ret (.int .i64 (x0.n : Int))
theorem impl_size_impl_Key_eq (C : Comb) (x0 : Sl) : fT C Try.prog { loop := [], join := [], anyOrder := [], pure := [] } n_impl_size_impl_Key [(.slice x0.a x0.n x0.c)] = impl_size_impl_Key C x0 := by kernel_rfl
theorem impl_size_impl_Key_calls {R : Value → World → Prop} {w : World} (x0 : Sl) (h : (impl_size_impl_Key (real Try.prog R) x0 : World → Prop) w) :
    Calls Try.prog n_impl_size_impl_Key [(.slice x0.a x0.n x0.c)].toArray w fun e w' => ∃ v, e = .returned v ∧ R v w' := fT_sound mixed { loop := [], join := [], anyOrder := [], pure := [] } (by rw [impl_size_impl_Key_eq]; exact h)

/-- impl.CheckRange$1 (29) -/
def impl_CheckRange_1 (C : Comb) (x0 : Int) (x1 : Int) (x2 : Addr) (x3 : Addr) (x4 : Addr) (x5 : Addr) (x6 : Addr) : C.St :=
  C.new ty_impl_Key (.agg (Array.replicate 32 (.int .u8 0))) fun b9 =>
  C.join (TL [.bool]) (embL [.bool]) (fun s4 => C.any fun _ =>
      cond s4 (
        C.ld .ptr 1 x4 fun v23 =>
        C.call n_ptr_impl_queue_take [(.pointer (some v23))] [.agg] fun r24 =>
        C.st 32 (Addr.mk b9 0 none) (.agg r24) <|
        C.ld .agg 32 (Addr.mk b9 0 none) fun z7 =>
        C.ret (.agg z7)
      ) (
        cond (x1 == 1) (
          C.ld .slice 1 x5 fun v28 =>
          C.ld (.int .i64) 1 x2 fun v30 =>
          C.ix v28.a v28.n 32 (IntKind.wrap .i64 (x0 - v30)) fun p32 =>
          C.ld .agg 32 p32 fun v33 =>
          C.st 32 (Addr.mk b9 0 none) (.agg v33) <|
          C.ld .agg 32 (Addr.mk b9 0 none) fun z12 =>
          C.ret (.agg z12)
        ) (
          C.call n_impl_leftOf [(.int .i64 x1)] [(.int .i64)] fun r35 =>
          C.ld .val 1 x6 fun v36 =>
          C.callV v36 [(.int .i64 x0), (.int .i64 r35)] [.agg] fun r39 =>
          C.new ty_impl_Key (.agg (Array.replicate 32 (.int .u8 0))) fun b11 =>
          C.st 32 (Addr.mk b11 0 none) (.agg r39) <|
          C.draw <|
          C.ld .agg 32 (Addr.mk b11 0 none) fun v40 =>
          C.ld .val 1 x6 fun v41 =>
          C.callV v41 [(.int .i64 (IntKind.wrap .i64 (x0 + r35))), (.int .i64 (IntKind.wrap .i64 (x1 - r35)))] [.agg] fun r48 =>
          C.chk [⟨0, 32, (Addr.mk b11 0 none), .agg, v40⟩] <|
          C.call n_impl_NodeKey [(.agg v40), (.agg r48)] [.agg] fun r49 =>
          C.st 32 (Addr.mk b9 0 none) (.agg r49) <|
          C.ld .agg 32 (Addr.mk b9 0 none) fun z21 =>
          C.ret (.agg z21)
        )
      )
    ) fun jt =>
  C.ld (.int .i64) 1 x2 fun v16 =>
  cond (decide ((IntKind.wrap .i64 (x0 + x1)) ≤ v16)) (
    jt [(.bool true)]
  ) (
    C.ld (.int .i64) 1 x3 fun v20 =>
    jt [(.bool (decide (x0 ≥ v20)))]
  )
theorem impl_CheckRange_1_eq (C : Comb) (x0 : Int) (x1 : Int) (x2 : Addr) (x3 : Addr) (x4 : Addr) (x5 : Addr) (x6 : Addr) : fT C Try.prog { loop := [], join := [(4, [(12, .bool)])], anyOrder := [7], pure := [] } n_impl_CheckRange_1 [(.int .i64 x0), (.int .i64 x1), (.pointer (some x2)), (.pointer (some x3)), (.pointer (some x4)), (.pointer (some x5)), (.pointer (some x6))] = impl_CheckRange_1 C x0 x1 x2 x3 x4 x5 x6 := by kernel_rfl
theorem impl_CheckRange_1_calls {R : Value → World → Prop} {w : World} (x0 : Int) (x1 : Int) (x2 : Addr) (x3 : Addr) (x4 : Addr) (x5 : Addr) (x6 : Addr) (h : (impl_CheckRange_1 (real Try.prog R) x0 x1 x2 x3 x4 x5 x6 : World → Prop) w) :
    Calls Try.prog n_impl_CheckRange_1 [(.int .i64 x0), (.int .i64 x1), (.pointer (some x2)), (.pointer (some x3)), (.pointer (some x4)), (.pointer (some x5)), (.pointer (some x6))].toArray w fun e w' => ∃ v, e = .returned v ∧ R v w' := fT_sound mixed { loop := [], join := [(4, [(12, .bool)])], anyOrder := [7], pure := [] } (by rw [impl_CheckRange_1_eq]; exact h)

/-- (*impl.queue).take (30) -/
def ptr_impl_queue_take (C : Comb) (x0 : Addr) : C.St :=
  C.new ty_impl_Key (.agg (Array.replicate 32 (.int .u8 0))) fun b2 =>
  C.ld .slice 1 (x0.add 0) fun v7 =>
  cond ((v7.n : Int) == 0) (
    C.st 1 (x0.add 1) (.bool false) <|
    C.st 32 (Addr.mk b2 0 none) (.agg (Array.replicate 32 (.int .u8 0))) <|
    C.ld .agg 32 (Addr.mk b2 0 none) fun z3 =>
    C.ret (.agg z3)
  ) (
    C.ld .slice 1 (x0.add 0) fun v17 =>
    C.ix v17.a v17.n 32 0 fun p18 =>
    C.ld .agg 32 p18 fun v19 =>
    C.new ty_impl_Key (.agg (Array.replicate 32 (.int .u8 0))) fun b3 =>
    C.st 32 (Addr.mk b3 0 none) (.agg v19) <|
    C.ld .slice 1 (x0.add 0) fun v24 =>
    C.sl v24.a v24.n v24.c 32 (some 1) none none fun y25 =>
    C.st 1 (x0.add 0) (.slice y25.a y25.n y25.c) <|
    C.ld .agg 32 (Addr.mk b3 0 none) fun v28 =>
    C.st 32 (Addr.mk b2 0 none) (.agg v28) <|
    C.ld .agg 32 (Addr.mk b2 0 none) fun z11 =>
    C.ret (.agg z11)
  )
theorem ptr_impl_queue_take_eq (C : Comb) (x0 : Addr) : fT C Try.prog { loop := [], join := [], anyOrder := [], pure := [] } n_ptr_impl_queue_take [(.pointer (some x0))] = ptr_impl_queue_take C x0 := by kernel_rfl
theorem ptr_impl_queue_take_calls {R : Value → World → Prop} {w : World} (x0 : Addr) (h : (ptr_impl_queue_take (real Try.prog R) x0 : World → Prop) w) :
    Calls Try.prog n_ptr_impl_queue_take [(.pointer (some x0))].toArray w fun e w' => ∃ v, e = .returned v ∧ R v w' := fT_sound mixed { loop := [], join := [], anyOrder := [], pure := [] } (by rw [ptr_impl_queue_take_eq]; exact h)

/-- impl.leftOf (31) -/
def impl_leftOf (C : Comb) (x0 : Int) : C.St :=
  C.call n_math_bits_Len64 [(.int .u64 (IntKind.wrap .u64 ((IntKind.wrap .i64 (x0 - 1)))))] [(.int .i64)] fun r6 =>
  C.pur (eqB .shl ty_int64 (.const (.int .i64 1)) (.tmp 7) (.int .i64 1) (.int .i64 (IntKind.wrap .i64 (r6 - 1)))) (.int .i64) fun y8 =>
  C.ret (.int .i64 y8)
theorem impl_leftOf_eq (C : Comb) (x0 : Int) : fT C Try.prog { loop := [], join := [], anyOrder := [], pure := [] } n_impl_leftOf [(.int .i64 x0)] = impl_leftOf C x0 := by kernel_rfl
theorem impl_leftOf_calls {R : Value → World → Prop} {w : World} (x0 : Int) (h : (impl_leftOf (real Try.prog R) x0 : World → Prop) w) :
    Calls Try.prog n_impl_leftOf [(.int .i64 x0)].toArray w fun e w' => ∃ v, e = .returned v ∧ R v w' := fT_sound mixed { loop := [], join := [], anyOrder := [], pure := [] } (by rw [impl_leftOf_eq]; exact h)

/-- impl.NodeKey (32) -/
def impl_NodeKey (C : Comb) (x0 : Array Value) (x1 : Array Value) : C.St :=
  C.new ty_impl_Key (.agg x0) fun b2 =>
  C.new ty_impl_Key (.agg x1) fun b3 =>
  C.new ty_impl_Key (.agg (Array.replicate 32 (.int .u8 0))) fun b4 =>
  C.ld .agg 32 (Addr.mk b2 0 none) fun v5 =>
  C.ld .agg 32 (Addr.mk b3 0 none) fun v6 =>
  C.call n_impl_PairKey [(.int .u8 2), (.agg v5), (.agg v6)] [.agg] fun r7 =>
  C.st 32 (Addr.mk b4 0 none) (.agg r7) <|
  C.ld .agg 32 (Addr.mk b4 0 none) fun z7 =>
  C.ret (.agg z7)
theorem impl_NodeKey_eq (C : Comb) (x0 : Array Value) (x1 : Array Value) : fT C Try.prog { loop := [], join := [], anyOrder := [], pure := [] } n_impl_NodeKey [(.agg x0), (.agg x1)] = impl_NodeKey C x0 x1 := by kernel_rfl
theorem impl_NodeKey_calls {R : Value → World → Prop} {w : World} (x0 : Array Value) (x1 : Array Value) (h : (impl_NodeKey (real Try.prog R) x0 x1 : World → Prop) w) :
    Calls Try.prog n_impl_NodeKey [(.agg x0), (.agg x1)].toArray w fun e w' => ∃ v, e = .returned v ∧ R v w' := fT_sound mixed { loop := [], join := [], anyOrder := [], pure := [] } (by rw [impl_NodeKey_eq]; exact h)

/-- laws.eqKey (33) -/
def laws_eqKey (C : Comb) (x0 : Array Value) (x1 : Array Value) : C.St :=
  C.new ty_impl_Key (.agg x0) fun b2 =>
  C.new ty_impl_Key (.agg x1) fun b3 =>
  C.loop (TL [(.int .i64)]) (embL [(.int .i64)]) [(.int .i64 0)] fun s3 ct3 => C.any fun _ =>
  cond (decide (s3 < 32)) (
    C.draw <|
    C.ix (some (Addr.mk b2 0 none)) 32 1 s3 fun p11 =>
    C.ld (.int .u8) 1 p11 fun v12 =>
    C.ix (some (Addr.mk b3 0 none)) 32 1 s3 fun p14 =>
    C.ld (.int .u8) 1 p14 fun v15 =>
    cond (v12 != v15) (
      C.ret (.bool false)
    ) (
      ct3 [(.int .i64 (IntKind.wrap .i64 (s3 + 1)))]
    )
  ) (
    C.ret (.bool true)
  )
theorem laws_eqKey_eq (C : Comb) (x0 : Array Value) (x1 : Array Value) : fT C Try.prog { loop := [(2, [(5, (.int .i64))])], join := [], anyOrder := [], pure := [] } n_laws_eqKey [(.agg x0), (.agg x1)] = laws_eqKey C x0 x1 := by kernel_rfl
theorem laws_eqKey_calls {R : Value → World → Prop} {w : World} (x0 : Array Value) (x1 : Array Value) (h : (laws_eqKey (real Try.prog R) x0 x1 : World → Prop) w) :
    Calls Try.prog n_laws_eqKey [(.agg x0), (.agg x1)].toArray w fun e w' => ∃ v, e = .returned v ∧ R v w' := fT_sound mixed { loop := [(2, [(5, (.int .i64))])], join := [], anyOrder := [], pure := [] } (by rw [laws_eqKey_eq]; exact h)

/-- spec.l03Ones (34) -/
def spec_l03Ones (C : Comb) (x0 : Int) : C.St :=
  C.loop (TL [(.int .i64), (.int .i64)]) (embL [(.int .i64), (.int .i64)]) [(.int .i64 x0), (.int .i64 0)] fun s1 ct1 => C.any fun _ =>
  cond (decide (s1.1 > 0)) (
    ct1 [(.int .i64 (IntKind.wrap .i64 (Int.tdiv s1.1 2))), (.int .i64 (IntKind.wrap .i64 (s1.2 + (Int.tmod s1.1 2))))]
  ) (
    C.ret (.int .i64 s1.2)
  )
theorem spec_l03Ones_eq (C : Comb) (x0 : Int) : fT C Try.prog { loop := [(2, [(0, (.int .i64)), (3, (.int .i64))])], join := [], anyOrder := [], pure := [] } n_spec_l03Ones [(.int .i64 x0)] = spec_l03Ones C x0 := by kernel_rfl
theorem spec_l03Ones_calls {R : Value → World → Prop} {w : World} (x0 : Int) (h : (spec_l03Ones (real Try.prog R) x0 : World → Prop) w) :
    Calls Try.prog n_spec_l03Ones [(.int .i64 x0)].toArray w fun e w' => ∃ v, e = .returned v ∧ R v w' := fT_sound mixed { loop := [(2, [(0, (.int .i64)), (3, (.int .i64))])], join := [], anyOrder := [], pure := [] } (by rw [spec_l03Ones_eq]; exact h)

/-- spec.l03Of (35) -/
def spec_l03Of (C : Comb) (x0 : Sl) : C.St :=
  C.new ty_impl_Key (.agg (Array.replicate 32 (.int .u8 0))) fun b2 =>
  C.ix x0.a x0.n 32 (IntKind.wrap .i64 ((x0.n : Int) - 1)) fun p9 =>
  C.ld .agg 32 p9 fun v10 =>
  C.new ty_impl_Key (.agg (Array.replicate 32 (.int .u8 0))) fun b3 =>
  C.st 32 (Addr.mk b3 0 none) (.agg v10) <|
  C.loop (TL [(.int .i64)]) (embL [(.int .i64)]) [(.int .i64 (IntKind.wrap .i64 ((x0.n : Int) - 2)))] fun s5 ct5 => C.any fun _ =>
  cond (decide (s5 ≥ 0)) (
    C.draw <|
    C.ix x0.a x0.n 32 s5 fun p20 =>
    C.ld .agg 32 p20 fun v21 =>
    C.ld .agg 32 (Addr.mk b3 0 none) fun v22 =>
    C.call n_spec_l03Node [(.agg v21), (.agg v22)] [.agg] fun r23 =>
    C.st 32 (Addr.mk b3 0 none) (.agg r23) <|
    ct5 [(.int .i64 (IntKind.wrap .i64 (s5 - 1)))]
  ) (
    C.ld .agg 32 (Addr.mk b3 0 none) fun v24 =>
    C.st 32 (Addr.mk b2 0 none) (.agg v24) <|
    C.ld .agg 32 (Addr.mk b2 0 none) fun z11 =>
    C.ret (.agg z11)
  )
theorem spec_l03Of_eq (C : Comb) (x0 : Sl) : fT C Try.prog { loop := [(3, [(4, (.int .i64))])], join := [], anyOrder := [5], pure := [] } n_spec_l03Of [(.slice x0.a x0.n x0.c)] = spec_l03Of C x0 := by kernel_rfl
theorem spec_l03Of_calls {R : Value → World → Prop} {w : World} (x0 : Sl) (h : (spec_l03Of (real Try.prog R) x0 : World → Prop) w) :
    Calls Try.prog n_spec_l03Of [(.slice x0.a x0.n x0.c)].toArray w fun e w' => ∃ v, e = .returned v ∧ R v w' := fT_sound mixed { loop := [(3, [(4, (.int .i64))])], join := [], anyOrder := [5], pure := [] } (by rw [spec_l03Of_eq]; exact h)

/-- spec.l03Grown (36) -/
def spec_l03Grown (C : Comb) (x0 : Int) (x1 : Int) (x2 : Sl) (x3 : Sl) : C.St :=
  C.new ty_impl_Key (.agg (Array.replicate 32 (.int .u8 0))) fun b8 =>
  cond (decide (x1 ≤ 0)) (
    cond ((x3.n : Int) == 0) (
      C.st 32 (Addr.mk b8 0 none) (.agg (Array.replicate 32 (.int .u8 0))) <|
      C.ld .agg 32 (Addr.mk b8 0 none) fun z2 =>
      C.ret (.tuple #[(.agg z2), (.slice x2.a x2.n x2.c), (.slice x3.a x3.n x3.c), (.bool false)])
    ) (
      C.draw <|
      C.ix x3.a x3.n 32 0 fun p30 =>
      C.ld .agg 32 p30 fun v31 =>
      C.sl x3.a x3.n x3.c 32 (some 1) none none fun y34 =>
      C.st 32 (Addr.mk b8 0 none) (.agg v31) <|
      C.ld .agg 32 (Addr.mk b8 0 none) fun z6 =>
      C.ret (.tuple #[(.agg z6), (.slice x2.a x2.n x2.c), (.slice y34.a y34.n y34.c), (.bool true)])
    )
  ) (
    C.join (TL [.bool]) (embL [.bool]) (fun s8 => C.any fun _ =>
        cond s8 (
          cond ((x2.n : Int) == 0) (
            C.st 32 (Addr.mk b8 0 none) (.agg (Array.replicate 32 (.int .u8 0))) <|
            C.ld .agg 32 (Addr.mk b8 0 none) fun z9 =>
            C.ret (.tuple #[(.agg z9), (.slice x2.a x2.n x2.c), (.slice x3.a x3.n x3.c), (.bool false)])
          ) (
            C.draw <|
            C.ix x2.a x2.n 32 0 fun p50 =>
            C.ld .agg 32 p50 fun v51 =>
            C.sl x2.a x2.n x2.c 32 (some 1) none none fun y53 =>
            C.st 32 (Addr.mk b8 0 none) (.agg v51) <|
            C.ld .agg 32 (Addr.mk b8 0 none) fun z13 =>
            C.ret (.tuple #[(.agg z13), (.slice y53.a y53.n y53.c), (.slice x3.a x3.n x3.c), (.bool true)])
          )
        ) (
          C.call n_spec_l03Half [(.int .i64 x0)] [(.int .i64)] fun r56 =>
          C.call n_spec_l00Min [(.int .i64 x1), (.int .i64 r56)] [(.int .i64)] fun r61 =>
          C.call n_spec_l03Grown [(.int .i64 r56), (.int .i64 r61), (.slice x2.a x2.n x2.c), (.slice x3.a x3.n x3.c)] [.agg, .slice, .slice, .bool] fun r64 =>
          C.new ty_impl_Key (.agg (Array.replicate 32 (.int .u8 0))) fun b13 =>
          C.st 32 (Addr.mk b13 0 none) (.agg r64.1) <|
          cond (!r64.2.2.2) (
            C.st 32 (Addr.mk b8 0 none) (.agg (Array.replicate 32 (.int .u8 0))) <|
            C.ld .agg 32 (Addr.mk b8 0 none) fun z18 =>
            C.ret (.tuple #[(.agg z18), (.slice x2.a x2.n x2.c), (.slice x3.a x3.n x3.c), (.bool false)])
          ) (
            C.call n_spec_l03Grown [(.int .i64 (IntKind.wrap .i64 (x0 - r56))), (.int .i64 (IntKind.wrap .i64 (x1 - r56))), (.slice r64.2.1.a r64.2.1.n r64.2.1.c), (.slice r64.2.2.1.a r64.2.2.1.n r64.2.2.1.c)] [.agg, .slice, .slice, .bool] fun r83 =>
            C.new ty_impl_Key (.agg (Array.replicate 32 (.int .u8 0))) fun b17 =>
            C.st 32 (Addr.mk b17 0 none) (.agg r83.1) <|
            C.ld .agg 32 (Addr.mk b13 0 none) fun v88 =>
            C.ld .agg 32 (Addr.mk b17 0 none) fun v89 =>
            C.call n_spec_l03Node [(.agg v88), (.agg v89)] [.agg] fun r90 =>
            C.st 32 (Addr.mk b8 0 none) (.agg r90) <|
            C.ld .agg 32 (Addr.mk b8 0 none) fun z24 =>
            C.ret (.tuple #[(.agg z24), (.slice r83.2.1.a r83.2.1.n r83.2.1.c), (.slice r83.2.2.1.a r83.2.2.1.n r83.2.2.1.c), (.bool r83.2.2.2)])
          )
        )
      ) fun jt =>
    cond (decide (x1 ≥ x0)) (
      C.call n_spec_l03Ones [(.int .i64 x0)] [(.int .i64)] fun r40 =>
      jt [(.bool (r40 == 1))]
    ) (
      jt [(.bool false)]
    )
  )
theorem spec_l03Grown_eq (C : Comb) (x0 : Int) (x1 : Int) (x2 : Sl) (x3 : Sl) : fT C Try.prog { loop := [], join := [(16, [(42, .bool)])], anyOrder := [4, 8], pure := [] } n_spec_l03Grown [(.int .i64 x0), (.int .i64 x1), (.slice x2.a x2.n x2.c), (.slice x3.a x3.n x3.c)] = spec_l03Grown C x0 x1 x2 x3 := by kernel_rfl
theorem spec_l03Grown_calls {R : Value → World → Prop} {w : World} (x0 : Int) (x1 : Int) (x2 : Sl) (x3 : Sl) (h : (spec_l03Grown (real Try.prog R) x0 x1 x2 x3 : World → Prop) w) :
    Calls Try.prog n_spec_l03Grown [(.int .i64 x0), (.int .i64 x1), (.slice x2.a x2.n x2.c), (.slice x3.a x3.n x3.c)].toArray w fun e w' => ∃ v, e = .returned v ∧ R v w' := fT_sound mixed { loop := [], join := [(16, [(42, .bool)])], anyOrder := [4, 8], pure := [] } (by rw [spec_l03Grown_eq]; exact h)

/-- impl.within (37) -/
def impl_within (C : Comb) (x0 : Int) (x1 : Int) (x2 : Int) : C.St :=
  cond (decide (x0 ≥ x1)) (
    C.ret (.bool (decide (x0 ≤ x2)))
  ) (
    C.ret (.bool false)
  )
theorem impl_within_eq (C : Comb) (x0 : Int) (x1 : Int) (x2 : Int) : fT C Try.prog { loop := [], join := [], anyOrder := [], pure := [] } n_impl_within [(.int .i64 x0), (.int .i64 x1), (.int .i64 x2)] = impl_within C x0 x1 x2 := by kernel_rfl
theorem impl_within_calls {R : Value → World → Prop} {w : World} (x0 : Int) (x1 : Int) (x2 : Int) (h : (impl_within (real Try.prog R) x0 x1 x2 : World → Prop) w) :
    Calls Try.prog n_impl_within [(.int .i64 x0), (.int .i64 x1), (.int .i64 x2)].toArray w fun e w' => ∃ v, e = .returned v ∧ R v w' := fT_sound mixed { loop := [], join := [], anyOrder := [], pure := [] } (by rw [impl_within_eq]; exact h)

/-- math/bits.OnesCount64 (38) -/
def math_bits_OnesCount64 (C : Comb) (x0 : Int) : C.St :=
  C.ret (.int .i64 (bitsI .and .i64 (IntKind.wrap .i64 ((IntKind.wrap .u64 ((IntKind.wrap .u64 ((IntKind.wrap .u64 ((bitsI .and .u64 (IntKind.wrap .u64 ((Int.fdiv (IntKind.wrap .u64 ((bitsI .and .u64 (Int.fdiv (IntKind.wrap .u64 ((bitsI .and .u64 (Int.fdiv x0 (2 ^ 1)) 6148914691236517205) + (bitsI .and .u64 x0 6148914691236517205))) (2 ^ 2)) 3689348814741910323) + (bitsI .and .u64 (IntKind.wrap .u64 ((bitsI .and .u64 (Int.fdiv x0 (2 ^ 1)) 6148914691236517205) + (bitsI .and .u64 x0 6148914691236517205))) 3689348814741910323))) (2 ^ 4)) + (IntKind.wrap .u64 ((bitsI .and .u64 (Int.fdiv (IntKind.wrap .u64 ((bitsI .and .u64 (Int.fdiv x0 (2 ^ 1)) 6148914691236517205) + (bitsI .and .u64 x0 6148914691236517205))) (2 ^ 2)) 3689348814741910323) + (bitsI .and .u64 (IntKind.wrap .u64 ((bitsI .and .u64 (Int.fdiv x0 (2 ^ 1)) 6148914691236517205) + (bitsI .and .u64 x0 6148914691236517205))) 3689348814741910323))))) 1085102592571150095) + (Int.fdiv (bitsI .and .u64 (IntKind.wrap .u64 ((Int.fdiv (IntKind.wrap .u64 ((bitsI .and .u64 (Int.fdiv (IntKind.wrap .u64 ((bitsI .and .u64 (Int.fdiv x0 (2 ^ 1)) 6148914691236517205) + (bitsI .and .u64 x0 6148914691236517205))) (2 ^ 2)) 3689348814741910323) + (bitsI .and .u64 (IntKind.wrap .u64 ((bitsI .and .u64 (Int.fdiv x0 (2 ^ 1)) 6148914691236517205) + (bitsI .and .u64 x0 6148914691236517205))) 3689348814741910323))) (2 ^ 4)) + (IntKind.wrap .u64 ((bitsI .and .u64 (Int.fdiv (IntKind.wrap .u64 ((bitsI .and .u64 (Int.fdiv x0 (2 ^ 1)) 6148914691236517205) + (bitsI .and .u64 x0 6148914691236517205))) (2 ^ 2)) 3689348814741910323) + (bitsI .and .u64 (IntKind.wrap .u64 ((bitsI .and .u64 (Int.fdiv x0 (2 ^ 1)) 6148914691236517205) + (bitsI .and .u64 x0 6148914691236517205))) 3689348814741910323))))) 1085102592571150095) (2 ^ 8)))) + (Int.fdiv (IntKind.wrap .u64 ((bitsI .and .u64 (IntKind.wrap .u64 ((Int.fdiv (IntKind.wrap .u64 ((bitsI .and .u64 (Int.fdiv (IntKind.wrap .u64 ((bitsI .and .u64 (Int.fdiv x0 (2 ^ 1)) 6148914691236517205) + (bitsI .and .u64 x0 6148914691236517205))) (2 ^ 2)) 3689348814741910323) + (bitsI .and .u64 (IntKind.wrap .u64 ((bitsI .and .u64 (Int.fdiv x0 (2 ^ 1)) 6148914691236517205) + (bitsI .and .u64 x0 6148914691236517205))) 3689348814741910323))) (2 ^ 4)) + (IntKind.wrap .u64 ((bitsI .and .u64 (Int.fdiv (IntKind.wrap .u64 ((bitsI .and .u64 (Int.fdiv x0 (2 ^ 1)) 6148914691236517205) + (bitsI .and .u64 x0 6148914691236517205))) (2 ^ 2)) 3689348814741910323) + (bitsI .and .u64 (IntKind.wrap .u64 ((bitsI .and .u64 (Int.fdiv x0 (2 ^ 1)) 6148914691236517205) + (bitsI .and .u64 x0 6148914691236517205))) 3689348814741910323))))) 1085102592571150095) + (Int.fdiv (bitsI .and .u64 (IntKind.wrap .u64 ((Int.fdiv (IntKind.wrap .u64 ((bitsI .and .u64 (Int.fdiv (IntKind.wrap .u64 ((bitsI .and .u64 (Int.fdiv x0 (2 ^ 1)) 6148914691236517205) + (bitsI .and .u64 x0 6148914691236517205))) (2 ^ 2)) 3689348814741910323) + (bitsI .and .u64 (IntKind.wrap .u64 ((bitsI .and .u64 (Int.fdiv x0 (2 ^ 1)) 6148914691236517205) + (bitsI .and .u64 x0 6148914691236517205))) 3689348814741910323))) (2 ^ 4)) + (IntKind.wrap .u64 ((bitsI .and .u64 (Int.fdiv (IntKind.wrap .u64 ((bitsI .and .u64 (Int.fdiv x0 (2 ^ 1)) 6148914691236517205) + (bitsI .and .u64 x0 6148914691236517205))) (2 ^ 2)) 3689348814741910323) + (bitsI .and .u64 (IntKind.wrap .u64 ((bitsI .and .u64 (Int.fdiv x0 (2 ^ 1)) 6148914691236517205) + (bitsI .and .u64 x0 6148914691236517205))) 3689348814741910323))))) 1085102592571150095) (2 ^ 8)))) (2 ^ 16)))) + (Int.fdiv (IntKind.wrap .u64 ((IntKind.wrap .u64 ((bitsI .and .u64 (IntKind.wrap .u64 ((Int.fdiv (IntKind.wrap .u64 ((bitsI .and .u64 (Int.fdiv (IntKind.wrap .u64 ((bitsI .and .u64 (Int.fdiv x0 (2 ^ 1)) 6148914691236517205) + (bitsI .and .u64 x0 6148914691236517205))) (2 ^ 2)) 3689348814741910323) + (bitsI .and .u64 (IntKind.wrap .u64 ((bitsI .and .u64 (Int.fdiv x0 (2 ^ 1)) 6148914691236517205) + (bitsI .and .u64 x0 6148914691236517205))) 3689348814741910323))) (2 ^ 4)) + (IntKind.wrap .u64 ((bitsI .and .u64 (Int.fdiv (IntKind.wrap .u64 ((bitsI .and .u64 (Int.fdiv x0 (2 ^ 1)) 6148914691236517205) + (bitsI .and .u64 x0 6148914691236517205))) (2 ^ 2)) 3689348814741910323) + (bitsI .and .u64 (IntKind.wrap .u64 ((bitsI .and .u64 (Int.fdiv x0 (2 ^ 1)) 6148914691236517205) + (bitsI .and .u64 x0 6148914691236517205))) 3689348814741910323))))) 1085102592571150095) + (Int.fdiv (bitsI .and .u64 (IntKind.wrap .u64 ((Int.fdiv (IntKind.wrap .u64 ((bitsI .and .u64 (Int.fdiv (IntKind.wrap .u64 ((bitsI .and .u64 (Int.fdiv x0 (2 ^ 1)) 6148914691236517205) + (bitsI .and .u64 x0 6148914691236517205))) (2 ^ 2)) 3689348814741910323) + (bitsI .and .u64 (IntKind.wrap .u64 ((bitsI .and .u64 (Int.fdiv x0 (2 ^ 1)) 6148914691236517205) + (bitsI .and .u64 x0 6148914691236517205))) 3689348814741910323))) (2 ^ 4)) + (IntKind.wrap .u64 ((bitsI .and .u64 (Int.fdiv (IntKind.wrap .u64 ((bitsI .and .u64 (Int.fdiv x0 (2 ^ 1)) 6148914691236517205) + (bitsI .and .u64 x0 6148914691236517205))) (2 ^ 2)) 3689348814741910323) + (bitsI .and .u64 (IntKind.wrap .u64 ((bitsI .and .u64 (Int.fdiv x0 (2 ^ 1)) 6148914691236517205) + (bitsI .and .u64 x0 6148914691236517205))) 3689348814741910323))))) 1085102592571150095) (2 ^ 8)))) + (Int.fdiv (IntKind.wrap .u64 ((bitsI .and .u64 (IntKind.wrap .u64 ((Int.fdiv (IntKind.wrap .u64 ((bitsI .and .u64 (Int.fdiv (IntKind.wrap .u64 ((bitsI .and .u64 (Int.fdiv x0 (2 ^ 1)) 6148914691236517205) + (bitsI .and .u64 x0 6148914691236517205))) (2 ^ 2)) 3689348814741910323) + (bitsI .and .u64 (IntKind.wrap .u64 ((bitsI .and .u64 (Int.fdiv x0 (2 ^ 1)) 6148914691236517205) + (bitsI .and .u64 x0 6148914691236517205))) 3689348814741910323))) (2 ^ 4)) + (IntKind.wrap .u64 ((bitsI .and .u64 (Int.fdiv (IntKind.wrap .u64 ((bitsI .and .u64 (Int.fdiv x0 (2 ^ 1)) 6148914691236517205) + (bitsI .and .u64 x0 6148914691236517205))) (2 ^ 2)) 3689348814741910323) + (bitsI .and .u64 (IntKind.wrap .u64 ((bitsI .and .u64 (Int.fdiv x0 (2 ^ 1)) 6148914691236517205) + (bitsI .and .u64 x0 6148914691236517205))) 3689348814741910323))))) 1085102592571150095) + (Int.fdiv (bitsI .and .u64 (IntKind.wrap .u64 ((Int.fdiv (IntKind.wrap .u64 ((bitsI .and .u64 (Int.fdiv (IntKind.wrap .u64 ((bitsI .and .u64 (Int.fdiv x0 (2 ^ 1)) 6148914691236517205) + (bitsI .and .u64 x0 6148914691236517205))) (2 ^ 2)) 3689348814741910323) + (bitsI .and .u64 (IntKind.wrap .u64 ((bitsI .and .u64 (Int.fdiv x0 (2 ^ 1)) 6148914691236517205) + (bitsI .and .u64 x0 6148914691236517205))) 3689348814741910323))) (2 ^ 4)) + (IntKind.wrap .u64 ((bitsI .and .u64 (Int.fdiv (IntKind.wrap .u64 ((bitsI .and .u64 (Int.fdiv x0 (2 ^ 1)) 6148914691236517205) + (bitsI .and .u64 x0 6148914691236517205))) (2 ^ 2)) 3689348814741910323) + (bitsI .and .u64 (IntKind.wrap .u64 ((bitsI .and .u64 (Int.fdiv x0 (2 ^ 1)) 6148914691236517205) + (bitsI .and .u64 x0 6148914691236517205))) 3689348814741910323))))) 1085102592571150095) (2 ^ 8)))) (2 ^ 16)))) (2 ^ 32)))))) 127))
theorem math_bits_OnesCount64_eq (C : Comb) (x0 : Int) : fT C Try.prog { loop := [], join := [], anyOrder := [], pure := [] } n_math_bits_OnesCount64 [(.int .u64 x0)] = math_bits_OnesCount64 C x0 := by kernel_rfl
theorem math_bits_OnesCount64_calls {R : Value → World → Prop} {w : World} (x0 : Int) (h : (math_bits_OnesCount64 (real Try.prog R) x0 : World → Prop) w) :
    Calls Try.prog n_math_bits_OnesCount64 [(.int .u64 x0)].toArray w fun e w' => ∃ v, e = .returned v ∧ R v w' := fT_sound mixed { loop := [], join := [], anyOrder := [], pure := [] } (by rw [math_bits_OnesCount64_eq]; exact h)

/-- impl.keyOfPeaks (39) -/
def impl_keyOfPeaks (C : Comb) (x0 : Sl) : C.St :=
  C.new ty_impl_Key (.agg (Array.replicate 32 (.int .u8 0))) fun b2 =>
  cond ((x0.n : Int) == 0) (
    C.call n_impl_listKey [(.slice none 0 0)] [.agg] fun r10 =>
    C.st 32 (Addr.mk b2 0 none) (.agg r10) <|
    C.ld .agg 32 (Addr.mk b2 0 none) fun z3 =>
    C.ret (.agg z3)
  ) (
    C.ix x0.a x0.n 32 (IntKind.wrap .i64 ((x0.n : Int) - 1)) fun p14 =>
    C.ld .agg 32 p14 fun v15 =>
    C.new ty_impl_Key (.agg (Array.replicate 32 (.int .u8 0))) fun b4 =>
    C.st 32 (Addr.mk b4 0 none) (.agg v15) <|
    C.loop (TL [(.int .i64)]) (embL [(.int .i64)]) [(.int .i64 (IntKind.wrap .i64 ((x0.n : Int) - 2)))] fun s7 ct7 => C.any fun _ =>
    cond (decide (s7 ≥ 0)) (
      C.draw <|
      C.ix x0.a x0.n 32 s7 fun p24 =>
      C.ld .agg 32 p24 fun v25 =>
      C.ld .agg 32 (Addr.mk b4 0 none) fun v26 =>
      C.call n_impl_NodeKey [(.agg v25), (.agg v26)] [.agg] fun r27 =>
      C.st 32 (Addr.mk b4 0 none) (.agg r27) <|
      ct7 [(.int .i64 (IntKind.wrap .i64 (s7 - 1)))]
    ) (
      C.ld .agg 32 (Addr.mk b4 0 none) fun v28 =>
      C.st 32 (Addr.mk b2 0 none) (.agg v28) <|
      C.ld .agg 32 (Addr.mk b2 0 none) fun z13 =>
      C.ret (.agg z13)
    )
  )
theorem impl_keyOfPeaks_eq (C : Comb) (x0 : Sl) : fT C Try.prog { loop := [(6, [(5, (.int .i64))])], join := [], anyOrder := [8], pure := [] } n_impl_keyOfPeaks [(.slice x0.a x0.n x0.c)] = impl_keyOfPeaks C x0 := by kernel_rfl
theorem impl_keyOfPeaks_calls {R : Value → World → Prop} {w : World} (x0 : Sl) (h : (impl_keyOfPeaks (real Try.prog R) x0 : World → Prop) w) :
    Calls Try.prog n_impl_keyOfPeaks [(.slice x0.a x0.n x0.c)].toArray w fun e w' => ∃ v, e = .returned v ∧ R v w' := fT_sound mixed { loop := [(6, [(5, (.int .i64))])], join := [], anyOrder := [8], pure := [] } (by rw [impl_keyOfPeaks_eq]; exact h)

/-- impl.CheckGrowth$1 (40) -/
def impl_CheckGrowth_1 (C : Comb) (x0 : Int) (x1 : Int) (x2 : Addr) : C.St :=
  C.ld (.int .i64) 1 x2 fun v7 =>
  C.ld (.int .i64) 1 x2 fun v13 =>
  cond (decide ((IntKind.wrap .i64 (x0 + x1)) ≤ v13)) (
    C.call n_math_bits_Len64 [(.int .u64 (IntKind.wrap .u64 ((IntKind.wrap .i64 (v7 - x0)))))] [(.int .i64)] fun r19 =>
    C.pur (eqB .shl ty_int64 (.const (.int .i64 1)) (.tmp 20) (.int .i64 1) (.int .i64 (IntKind.wrap .i64 (r19 - 1)))) (.int .i64) fun y21 =>
    C.ret (.bool (x1 == y21))
  ) (
    C.ret (.bool false)
  )
theorem impl_CheckGrowth_1_eq (C : Comb) (x0 : Int) (x1 : Int) (x2 : Addr) : fT C Try.prog { loop := [], join := [], anyOrder := [], pure := [] } n_impl_CheckGrowth_1 [(.int .i64 x0), (.int .i64 x1), (.pointer (some x2))] = impl_CheckGrowth_1 C x0 x1 x2 := by kernel_rfl
theorem impl_CheckGrowth_1_calls {R : Value → World → Prop} {w : World} (x0 : Int) (x1 : Int) (x2 : Addr) (h : (impl_CheckGrowth_1 (real Try.prog R) x0 x1 x2 : World → Prop) w) :
    Calls Try.prog n_impl_CheckGrowth_1 [(.int .i64 x0), (.int .i64 x1), (.pointer (some x2))].toArray w fun e w' => ∃ v, e = .returned v ∧ R v w' := fT_sound mixed { loop := [], join := [], anyOrder := [], pure := [] } (by rw [impl_CheckGrowth_1_eq]; exact h)

/-- math/bits.Len64 (41) -/
def math_bits_Len64 (C : Comb) (x0 : Int) : C.St :=
  C.join (TL [(.int .u64), (.int .i64)]) (embL [(.int .u64), (.int .i64)]) (fun s1 => C.any fun _ =>
      C.join (TL [(.int .u64), (.int .i64)]) (embL [(.int .u64), (.int .i64)]) (fun s2 => C.any fun _ =>
          C.join (TL [(.int .u64), (.int .i64)]) (embL [(.int .u64), (.int .i64)]) (fun s3 => C.any fun _ =>
              C.ixS (⟨#[0, 1, 2, 2, 3, 3, 3, 3, 4, 4, 4, 4, 4, 4, 4, 4, 5, 5, 5, 5, 5, 5, 5, 5, 5, 5, 5, 5, 5, 5, 5, 5, 6, 6, 6, 6, 6, 6, 6, 6, 6, 6, 6, 6, 6, 6, 6, 6, 6, 6, 6, 6, 6, 6, 6, 6, 6, 6, 6, 6, 6, 6, 6, 6, 7, 7, 7, 7, 7, 7, 7, 7, 7, 7, 7, 7, 7, 7, 7, 7, 7, 7, 7, 7, 7, 7, 7, 7, 7, 7, 7, 7, 7, 7, 7, 7, 7, 7, 7, 7, 7, 7, 7, 7, 7, 7, 7, 7, 7, 7, 7, 7, 7, 7, 7, 7, 7, 7, 7, 7, 7, 7, 7, 7, 7, 7, 7, 7, 8, 8, 8, 8, 8, 8, 8, 8, 8, 8, 8, 8, 8, 8, 8, 8, 8, 8, 8, 8, 8, 8, 8, 8, 8, 8, 8, 8, 8, 8, 8, 8, 8, 8, 8, 8, 8, 8, 8, 8, 8, 8, 8, 8, 8, 8, 8, 8, 8, 8, 8, 8, 8, 8, 8, 8, 8, 8, 8, 8, 8, 8, 8, 8, 8, 8, 8, 8, 8, 8, 8, 8, 8, 8, 8, 8, 8, 8, 8, 8, 8, 8, 8, 8, 8, 8, 8, 8, 8, 8, 8, 8, 8, 8, 8, 8, 8, 8, 8, 8, 8, 8, 8, 8, 8, 8, 8, 8, 8, 8, 8, 8, 8, 8, 8, 8, 8, 8, 8, 8, 8, 8, 8, 8, 8, 8, 8, 8]⟩ : ByteArray) (IntKind.wrap .u8 (s3.1)) fun y22 =>
              C.ret (.int .i64 (IntKind.wrap .i64 (s3.2 + (IntKind.wrap .i64 (y22)))))
            ) fun jt =>
          cond (decide (s2.1 ≥ 256)) (
            jt [(.int .u64 (Int.fdiv s2.1 (2 ^ 8))), (.int .i64 (IntKind.wrap .i64 (s2.2 + 8)))]
          ) (
            jt [(.int .u64 s2.1), (.int .i64 s2.2)]
          )
        ) fun jt =>
      cond (decide (s1.1 ≥ 65536)) (
        jt [(.int .u64 (Int.fdiv s1.1 (2 ^ 16))), (.int .i64 (IntKind.wrap .i64 (s1.2 + 16)))]
      ) (
        jt [(.int .u64 s1.1), (.int .i64 s1.2)]
      )
    ) fun jt =>
  cond (decide (x0 ≥ 4294967296)) (
    jt [(.int .u64 (Int.fdiv x0 (2 ^ 32))), (.int .i64 32)]
  ) (
    jt [(.int .u64 x0), (.int .i64 0)]
  )
theorem math_bits_Len64_eq (C : Comb) (x0 : Int) : fT C Try.prog { loop := [], join := [(12, [(0, (.int .u64)), (2, (.int .i64))]), (24, [(0, (.int .u64)), (2, (.int .i64))]), (42, [(0, (.int .u64)), (2, (.int .i64))])], anyOrder := [], pure := [] } n_math_bits_Len64 [(.int .u64 x0)] = math_bits_Len64 C x0 := by kernel_rfl
theorem math_bits_Len64_calls {R : Value → World → Prop} {w : World} (x0 : Int) (h : (math_bits_Len64 (real Try.prog R) x0 : World → Prop) w) :
    Calls Try.prog n_math_bits_Len64 [(.int .u64 x0)].toArray w fun e w' => ∃ v, e = .returned v ∧ R v w' := fT_sound mixed { loop := [], join := [(12, [(0, (.int .u64)), (2, (.int .i64))]), (24, [(0, (.int .u64)), (2, (.int .i64))]), (42, [(0, (.int .u64)), (2, (.int .i64))])], anyOrder := [], pure := [] } (by rw [math_bits_Len64_eq]; exact h)

/-- impl.CheckGrowth$2 (42) -/
def impl_CheckGrowth_2 (C : Comb) (x0 : Int) (x1 : Int) (x2 : Addr) (x3 : Addr) (x4 : Addr) (x5 : Addr) (x6 : Addr) : C.St :=
  C.new ty_impl_Key (.agg (Array.replicate 32 (.int .u8 0))) fun b9 =>
  C.ld (.int .i64) 1 x2 fun v14 =>
  cond (decide (x0 ≥ v14)) (
    C.ld .ptr 1 x3 fun v16 =>
    C.call n_ptr_impl_queue_take [(.pointer (some v16))] [.agg] fun r17 =>
    C.st 32 (Addr.mk b9 0 none) (.agg r17) <|
    C.ld .agg 32 (Addr.mk b9 0 none) fun z5 =>
    C.ret (.agg z5)
  ) (
    C.ld .val 1 x4 fun v19 =>
    C.callV v19 [(.int .i64 x0), (.int .i64 x1)] [.bool] fun r22 =>
    cond r22 (
      C.ld .ptr 1 x5 fun v23 =>
      C.call n_ptr_impl_queue_take [(.pointer (some v23))] [.agg] fun r24 =>
      C.st 32 (Addr.mk b9 0 none) (.agg r24) <|
      C.ld .agg 32 (Addr.mk b9 0 none) fun z10 =>
      C.ret (.agg z10)
    ) (
      C.call n_impl_leftOf [(.int .i64 x1)] [(.int .i64)] fun r26 =>
      C.ld .val 1 x6 fun v27 =>
      C.callV v27 [(.int .i64 x0), (.int .i64 r26)] [.agg] fun r30 =>
      C.new ty_impl_Key (.agg (Array.replicate 32 (.int .u8 0))) fun b11 =>
      C.st 32 (Addr.mk b11 0 none) (.agg r30) <|
      C.draw <|
      C.ld .agg 32 (Addr.mk b11 0 none) fun v31 =>
      C.ld .val 1 x6 fun v32 =>
      C.callV v32 [(.int .i64 (IntKind.wrap .i64 (x0 + r26))), (.int .i64 (IntKind.wrap .i64 (x1 - r26)))] [.agg] fun r39 =>
      C.chk [⟨0, 32, (Addr.mk b11 0 none), .agg, v31⟩] <|
      C.call n_impl_NodeKey [(.agg v31), (.agg r39)] [.agg] fun r40 =>
      C.st 32 (Addr.mk b9 0 none) (.agg r40) <|
      C.ld .agg 32 (Addr.mk b9 0 none) fun z19 =>
      C.ret (.agg z19)
    )
  )
theorem impl_CheckGrowth_2_eq (C : Comb) (x0 : Int) (x1 : Int) (x2 : Addr) (x3 : Addr) (x4 : Addr) (x5 : Addr) (x6 : Addr) : fT C Try.prog { loop := [], join := [], anyOrder := [7], pure := [] } n_impl_CheckGrowth_2 [(.int .i64 x0), (.int .i64 x1), (.pointer (some x2)), (.pointer (some x3)), (.pointer (some x4)), (.pointer (some x5)), (.pointer (some x6))] = impl_CheckGrowth_2 C x0 x1 x2 x3 x4 x5 x6 := by kernel_rfl
theorem impl_CheckGrowth_2_calls {R : Value → World → Prop} {w : World} (x0 : Int) (x1 : Int) (x2 : Addr) (x3 : Addr) (x4 : Addr) (x5 : Addr) (x6 : Addr) (h : (impl_CheckGrowth_2 (real Try.prog R) x0 x1 x2 x3 x4 x5 x6 : World → Prop) w) :
    Calls Try.prog n_impl_CheckGrowth_2 [(.int .i64 x0), (.int .i64 x1), (.pointer (some x2)), (.pointer (some x3)), (.pointer (some x4)), (.pointer (some x5)), (.pointer (some x6))].toArray w fun e w' => ∃ v, e = .returned v ∧ R v w' := fT_sound mixed { loop := [], join := [], anyOrder := [7], pure := [] } (by rw [impl_CheckGrowth_2_eq]; exact h)

/-- spec.l00From (43) -/
def spec_l00From (C : Comb) (x0 : Sl) : C.St :=
  C.pur (Instr.build ty_spec_l00Src #[(0, (.slice x0.a x0.n x0.c))]) .agg fun y4 =>
  C.new ty_spec_l00Src (.agg y4) fun b5 =>
  C.ret (.pointer (some (Addr.mk b5 0 none)))
theorem spec_l00From_eq (C : Comb) (x0 : Sl) : fT C Try.prog { loop := [], join := [], anyOrder := [], pure := [] } n_spec_l00From [(.slice x0.a x0.n x0.c)] = spec_l00From C x0 := by kernel_rfl
theorem spec_l00From_calls {R : Value → World → Prop} {w : World} (x0 : Sl) (h : (spec_l00From (real Try.prog R) x0 : World → Prop) w) :
    Calls Try.prog n_spec_l00From [(.slice x0.a x0.n x0.c)].toArray w fun e w' => ∃ v, e = .returned v ∧ R v w' := fT_sound mixed { loop := [], join := [], anyOrder := [], pure := [] } (by rw [spec_l00From_eq]; exact h)

/-- (*spec.l00Src).pick (44) -/
def ptr_spec_l00Src_pick (C : Comb) (x0 : Addr) (x1 : Int) : C.St :=
  cond (decide (x1 ≤ 1)) (
    C.ret (.int .i64 0)
  ) (
    C.call n_ptr_spec_l00Src_next [(.pointer (some x0))] [(.int .i64)] fun r9 =>
    cond (decide (x1 > 200)) (
      C.call n_ptr_spec_l00Src_next [(.pointer (some x0))] [(.int .i64)] fun r15 =>
      C.pur (eqB .rem ty_int64 (.tmp 17) (.tmp 18) (.int .i64 (IntKind.wrap .i64 ((IntKind.wrap .i64 (r9 * 256)) + r15))) (.int .i64 x1)) (.int .i64) fun y19 =>
      C.ret (.int .i64 y19)
    ) (
      C.pur (eqB .rem ty_int64 (.tmp 17) (.tmp 18) (.int .i64 r9) (.int .i64 x1)) (.int .i64) fun y19 =>
      C.ret (.int .i64 y19)
    )
  )
theorem ptr_spec_l00Src_pick_eq (C : Comb) (x0 : Addr) (x1 : Int) : fT C Try.prog { loop := [], join := [], anyOrder := [], pure := [] } n_ptr_spec_l00Src_pick [(.pointer (some x0)), (.int .i64 x1)] = ptr_spec_l00Src_pick C x0 x1 := by kernel_rfl
theorem ptr_spec_l00Src_pick_calls {R : Value → World → Prop} {w : World} (x0 : Addr) (x1 : Int) (h : (ptr_spec_l00Src_pick (real Try.prog R) x0 x1 : World → Prop) w) :
    Calls Try.prog n_ptr_spec_l00Src_pick [(.pointer (some x0)), (.int .i64 x1)].toArray w fun e w' => ∃ v, e = .returned v ∧ R v w' := fT_sound mixed { loop := [], join := [], anyOrder := [], pure := [] } (by rw [ptr_spec_l00Src_pick_eq]; exact h)

/-- spec.l01Any (45) -/
def spec_l01Any (C : Comb) (x0 : Addr) : C.St :=
  C.new ty_impl_Key (.agg (Array.replicate 32 (.int .u8 0))) fun b2 =>
  C.new ty_impl_Key (.agg (Array.replicate 32 (.int .u8 0))) fun b3 =>
  C.st 32 (Addr.mk b3 0 none) (.agg (Array.replicate 32 (.int .u8 0))) <|
  C.call n_ptr_spec_l00Src_pick [(.pointer (some x0)), (.int .i64 3)] [(.int .i64)] fun r7 =>
  cond (r7 == 0) (
    C.call n_ptr_spec_l00Src_pick [(.pointer (some x0)), (.int .i64 3)] [(.int .i64)] fun r11 =>
    C.call n_spec_l01Data [(.pointer (some x0)), (.int .i64 4)] [.slice] fun r14 =>
    C.call n_spec_l01Hash [(.int .u8 (IntKind.wrap .u8 (r11))), (.slice r14.a r14.n r14.c)] [.agg] fun r15 =>
    C.st 32 (Addr.mk b2 0 none) (.agg r15) <|
    C.ld .agg 32 (Addr.mk b2 0 none) fun z7 =>
    C.ret (.agg z7)
  ) (
    cond (r7 == 1) (
      C.call n_ptr_spec_l00Src_pick [(.pointer (some x0)), (.int .i64 32)] [(.int .i64)] fun r19 =>
      C.call n_ptr_spec_l00Src_pick [(.pointer (some x0)), (.int .i64 256)] [(.int .i64)] fun r21 =>
      C.ix (some (Addr.mk b3 0 none)) 32 1 r19 fun p23 =>
      C.st 1 p23 (.int .u8 (IntKind.wrap .u8 (r21))) <|
      C.ld .agg 32 (Addr.mk b3 0 none) fun v35 =>
      C.st 32 (Addr.mk b2 0 none) (.agg v35) <|
      C.ld .agg 32 (Addr.mk b2 0 none) fun z12 =>
      C.ret (.agg z12)
    ) (
      cond (r7 == 2) (
        C.loop (TL [(.int .i64)]) (embL [(.int .i64)]) [(.int .i64 0)] fun s13 ct13 => C.any fun _ =>
        cond (decide (s13 < 32)) (
          C.call n_ptr_spec_l00Src_pick [(.pointer (some x0)), (.int .i64 256)] [(.int .i64)] fun r32 =>
          C.ix (some (Addr.mk b3 0 none)) 32 1 s13 fun p34 =>
          C.st 1 p34 (.int .u8 (IntKind.wrap .u8 (r32))) <|
          ct13 [(.int .i64 (IntKind.wrap .i64 (s13 + 1)))]
        ) (
          C.ld .agg 32 (Addr.mk b3 0 none) fun v35 =>
          C.st 32 (Addr.mk b2 0 none) (.agg v35) <|
          C.ld .agg 32 (Addr.mk b2 0 none) fun z17 =>
          C.ret (.agg z17)
        )
      ) (
        C.ld .agg 32 (Addr.mk b3 0 none) fun v35 =>
        C.st 32 (Addr.mk b2 0 none) (.agg v35) <|
        C.ld .agg 32 (Addr.mk b2 0 none) fun z19 =>
        C.ret (.agg z19)
      )
    )
  )
theorem spec_l01Any_eq (C : Comb) (x0 : Addr) : fT C Try.prog { loop := [(9, [(4, (.int .i64))])], join := [], anyOrder := [], pure := [] } n_spec_l01Any [(.pointer (some x0))] = spec_l01Any C x0 := by kernel_rfl
theorem spec_l01Any_calls {R : Value → World → Prop} {w : World} (x0 : Addr) (h : (spec_l01Any (real Try.prog R) x0 : World → Prop) w) :
    Calls Try.prog n_spec_l01Any [(.pointer (some x0))].toArray w fun e w' => ∃ v, e = .returned v ∧ R v w' := fT_sound mixed { loop := [(9, [(4, (.int .i64))])], join := [], anyOrder := [], pure := [] } (by rw [spec_l01Any_eq]; exact h)

/-- impl.listKey (46) -/
def impl_listKey (C : Comb) (x0 : Sl) : C.St :=
  C.new ty_impl_Key (.agg (Array.replicate 32 (.int .u8 0))) fun b2 =>
  C.call n_impl_size_impl_Key [(.slice x0.a x0.n x0.c)] [(.int .i64)] fun r6 =>
  cond (r6 == 0) (
    C.call n_impl_hash [(.int .u8 3), (.slice none 0 0)] [.agg] fun r21 =>
    C.st 32 (Addr.mk b2 0 none) (.agg r21) <|
    C.ld .agg 32 (Addr.mk b2 0 none) fun z4 =>
    C.ret (.agg z4)
  ) (
    cond (r6 == 1) (
      C.ix x0.a x0.n 32 0 fun p25 =>
      C.ld .agg 32 p25 fun v26 =>
      C.st 32 (Addr.mk b2 0 none) (.agg v26) <|
      C.ld .agg 32 (Addr.mk b2 0 none) fun z7 =>
      C.ret (.agg z7)
    ) (
      C.call n_impl_leftOf [(.int .i64 r6)] [(.int .i64)] fun r9 =>
      C.draw <|
      C.sl x0.a x0.n x0.c 32 none (some r9) none fun y12 =>
      C.sl x0.a x0.n x0.c 32 (some r9) none none fun y16 =>
      C.call n_impl_listKey [(.slice y12.a y12.n y12.c)] [.agg] fun r13 =>
      C.call n_impl_listKey [(.slice y16.a y16.n y16.c)] [.agg] fun r17 =>
      C.call n_impl_NodeKey [(.agg r13), (.agg r17)] [.agg] fun r18 =>
      C.st 32 (Addr.mk b2 0 none) (.agg r18) <|
      C.ld .agg 32 (Addr.mk b2 0 none) fun z14 =>
      C.ret (.agg z14)
    )
  )
theorem impl_listKey_eq (C : Comb) (x0 : Sl) : fT C Try.prog { loop := [], join := [], anyOrder := [4], pure := [] } n_impl_listKey [(.slice x0.a x0.n x0.c)] = impl_listKey C x0 := by kernel_rfl
theorem impl_listKey_calls {R : Value → World → Prop} {w : World} (x0 : Sl) (h : (impl_listKey (real Try.prog R) x0 : World → Prop) w) :
    Calls Try.prog n_impl_listKey [(.slice x0.a x0.n x0.c)].toArray w fun e w' => ∃ v, e = .returned v ∧ R v w' := fT_sound mixed { loop := [], join := [], anyOrder := [4], pure := [] } (by rw [impl_listKey_eq]; exact h)

/-- impl.peaks (47) -/
def impl_peaks (C : Comb) (x0 : Sl) : C.St :=
  C.sem (Instr.buildSlice ty_sl_impl_Key 0 #[]) .slice fun y5 =>
  C.loop (TL [.slice, .slice]) (embL [.slice, .slice]) [(.slice x0.a x0.n x0.c), (.slice y5.a y5.n y5.c)] fun s2 ct2 => C.any fun _ =>
  cond (decide ((s2.1.n : Int) > 0)) (
    C.call n_math_bits_Len [(.int .u64 (IntKind.wrap .u64 ((s2.1.n : Int))))] [(.int .i64)] fun r12 =>
    C.pur (eqB .shl ty_int (.const (.int .i64 1)) (.tmp 13) (.int .i64 1) (.int .i64 (IntKind.wrap .i64 (r12 - 1)))) (.int .i64) fun y14 =>
    C.sl s2.1.a s2.1.n s2.1.c 32 none (some y14) none fun y18 =>
    C.call n_impl_listKey [(.slice y18.a y18.n y18.c)] [.agg] fun r19 =>
    C.sem (Instr.buildSlice ty_sl_impl_Key 1 #[(0, (.agg r19))]) .slice fun y20 =>
    C.sem (Builtin.append_ #[ty_sl_impl_Key, ty_sl_impl_Key] ty_sl_impl_Key #[(.slice s2.2.a s2.2.n s2.2.c), (.slice y20.a y20.n y20.c)]) .slice fun y21 =>
    C.sl s2.1.a s2.1.n s2.1.c 32 (some y14) none none fun y24 =>
    ct2 [(.slice y24.a y24.n y24.c), (.slice y21.a y21.n y21.c)]
  ) (
    C.ret (.slice s2.2.a s2.2.n s2.2.c)
  )
theorem impl_peaks_eq (C : Comb) (x0 : Sl) : fT C Try.prog { loop := [(2, [(0, .slice), (3, .slice)])], join := [], anyOrder := [], pure := [] } n_impl_peaks [(.slice x0.a x0.n x0.c)] = impl_peaks C x0 := by kernel_rfl
theorem impl_peaks_calls {R : Value → World → Prop} {w : World} (x0 : Sl) (h : (impl_peaks (real Try.prog R) x0 : World → Prop) w) :
    Calls Try.prog n_impl_peaks [(.slice x0.a x0.n x0.c)].toArray w fun e w' => ∃ v, e = .returned v ∧ R v w' := fT_sound mixed { loop := [(2, [(0, .slice), (3, .slice)])], join := [], anyOrder := [], pure := [] } (by rw [impl_peaks_eq]; exact h)

/-- impl.rangeProof (48) -/
def impl_rangeProof (C : Comb) (x0 : Sl) (x1 : Int) (x2 : Int) : C.St :=
  C.call n_impl_size_impl_Key [(.slice x0.a x0.n x0.c)] [(.int .i64)] fun r10 =>
  C.join (TL [.bool]) (embL [.bool]) (fun s2 => C.any fun _ =>
      cond s2 (
        C.call n_impl_listKey [(.slice x0.a x0.n x0.c)] [.agg] fun r20 =>
        C.sem (Instr.buildSlice ty_sl_impl_Key 1 #[(0, (.agg r20))]) .slice fun y21 =>
        C.ret (.slice y21.a y21.n y21.c)
      ) (
        cond (r10 == 1) (
          C.ret (.slice none 0 0)
        ) (
          C.call n_impl_leftOf [(.int .i64 r10)] [(.int .i64)] fun r26 =>
          C.draw <|
          C.sl x0.a x0.n x0.c 32 none (some r26) none fun y29 =>
          C.sl x0.a x0.n x0.c 32 (some r26) none none fun y35 =>
          C.call n_impl_rangeProof [(.slice y29.a y29.n y29.c), (.int .i64 x1), (.int .i64 x2)] [.slice] fun r32 =>
          C.call n_impl_rangeProof [(.slice y35.a y35.n y35.c), (.int .i64 (IntKind.wrap .i64 (x1 - r26))), (.int .i64 (IntKind.wrap .i64 (x2 - r26)))] [.slice] fun r42 =>
          C.sem (Builtin.append_ #[ty_sl_impl_Key, ty_sl_impl_Key] ty_sl_impl_Key #[(.slice r32.a r32.n r32.c), (.slice r42.a r42.n r42.c)]) .slice fun y43 =>
          C.ret (.slice y43.a y43.n y43.c)
        )
      )
    ) fun jt =>
  cond (decide (x2 ≤ 0)) (
    jt [(.bool true)]
  ) (
    jt [(.bool (decide (x1 ≥ r10)))]
  )
theorem impl_rangeProof_eq (C : Comb) (x0 : Sl) (x1 : Int) (x2 : Int) : fT C Try.prog { loop := [], join := [(7, [(11, .bool)])], anyOrder := [7], pure := [] } n_impl_rangeProof [(.slice x0.a x0.n x0.c), (.int .i64 x1), (.int .i64 x2)] = impl_rangeProof C x0 x1 x2 := by kernel_rfl
theorem impl_rangeProof_calls {R : Value → World → Prop} {w : World} (x0 : Sl) (x1 : Int) (x2 : Int) (h : (impl_rangeProof (real Try.prog R) x0 x1 x2 : World → Prop) w) :
    Calls Try.prog n_impl_rangeProof [(.slice x0.a x0.n x0.c), (.int .i64 x1), (.int .i64 x2)].toArray w fun e w' => ∃ v, e = .returned v ∧ R v w' := fT_sound mixed { loop := [], join := [(7, [(11, .bool)])], anyOrder := [7], pure := [] } (by rw [impl_rangeProof_eq]; exact h)

/-- impl.size[bool] (49) -/
def impl_size_bool (C : Comb) (x0 : Sl) : C.St :=
  C.ret (.int .i64 (x0.n : Int))
theorem impl_size_bool_eq (C : Comb) (x0 : Sl) : fT C Try.prog { loop := [], join := [], anyOrder := [], pure := [] } n_impl_size_bool [(.slice x0.a x0.n x0.c)] = impl_size_bool C x0 := by kernel_rfl
theorem impl_size_bool_calls {R : Value → World → Prop} {w : World} (x0 : Sl) (h : (impl_size_bool (real Try.prog R) x0 : World → Prop) w) :
    Calls Try.prog n_impl_size_bool [(.slice x0.a x0.n x0.c)].toArray w fun e w' => ∃ v, e = .returned v ∧ R v w' := fT_sound mixed { loop := [], join := [], anyOrder := [], pure := [] } (by rw [impl_size_bool_eq]; exact h)

/-- impl.sides (50) -/
def impl_sides (C : Comb) (x0 : Int) (x1 : Int) : C.St :=
  C.sem (Instr.buildSlice ty_sl_bool 0 #[]) .slice fun y8 =>
  C.loop (TL [(.int .i64), (.int .i64), .slice]) (embL [(.int .i64), (.int .i64), .slice]) [(.int .i64 x0), (.int .i64 x1), (.slice y8.a y8.n y8.c)] fun s2 ct2 => C.any fun _ =>
  cond (decide (s2.1 > 1)) (
    C.call n_impl_leftOf [(.int .i64 s2.1)] [(.int .i64)] fun r12 =>
    cond (decide (s2.2.1 ≥ r12)) (
      C.sem (Instr.buildSlice ty_sl_bool 1 #[(0, (.bool (decide (s2.2.1 ≥ r12))))]) .slice fun y26 =>
      C.sem (Builtin.append_ #[ty_sl_bool, ty_sl_bool] ty_sl_bool #[(.slice s2.2.2.a s2.2.2.n s2.2.2.c), (.slice y26.a y26.n y26.c)]) .slice fun y27 =>
      ct2 [(.int .i64 (IntKind.wrap .i64 (s2.1 - r12))), (.int .i64 (IntKind.wrap .i64 (s2.2.1 - r12))), (.slice y27.a y27.n y27.c)]
    ) (
      C.sem (Instr.buildSlice ty_sl_bool 1 #[(0, (.bool (decide (s2.2.1 ≥ r12))))]) .slice fun y26 =>
      C.sem (Builtin.append_ #[ty_sl_bool, ty_sl_bool] ty_sl_bool #[(.slice s2.2.2.a s2.2.2.n s2.2.2.c), (.slice y26.a y26.n y26.c)]) .slice fun y27 =>
      ct2 [(.int .i64 r12), (.int .i64 s2.2.1), (.slice y27.a y27.n y27.c)]
    )
  ) (
    C.call n_slices_Reverse_sl_bool_bool [(.slice s2.2.2.a s2.2.2.n s2.2.2.c)] [] fun r29 =>
    C.ret (.slice s2.2.2.a s2.2.2.n s2.2.2.c)
  )
theorem impl_sides_eq (C : Comb) (x0 : Int) (x1 : Int) : fT C Try.prog { loop := [(2, [(0, (.int .i64)), (1, (.int .i64)), (5, .slice)])], join := [], anyOrder := [], pure := [] } n_impl_sides [(.int .i64 x0), (.int .i64 x1)] = impl_sides C x0 x1 := by kernel_rfl
theorem impl_sides_calls {R : Value → World → Prop} {w : World} (x0 : Int) (x1 : Int) (h : (impl_sides (real Try.prog R) x0 x1 : World → Prop) w) :
    Calls Try.prog n_impl_sides [(.int .i64 x0), (.int .i64 x1)].toArray w fun e w' => ∃ v, e = .returned v ∧ R v w' := fT_sound mixed { loop := [(2, [(0, (.int .i64)), (1, (.int .i64)), (5, .slice)])], join := [], anyOrder := [], pure := [] } (by rw [impl_sides_eq]; exact h)

/-- slices.Equal[[]impl.Key,impl.Key] (51) -/
def slices_Equal_sl_impl_Key_impl_Key (C : Comb) (x0 : Sl) (x1 : Sl) : C.St :=
  cond ((x0.n : Int) != (x1.n : Int)) (
    C.ret (.bool false)
  ) (
    C.loop (TL [(.int .i64)]) (embL [(.int .i64)]) [(.int .i64 0)] fun s1 ct1 => C.any fun _ =>
    cond (decide (s1 < (x0.n : Int))) (
      C.draw <|
      C.ix x0.a x0.n 32 s1 fun p18 =>
      C.ld .agg 32 p18 fun v19 =>
      C.ix x1.a x1.n 32 s1 fun p22 =>
      C.ld .agg 32 p22 fun v23 =>
      C.pur (eqB .neq ty_impl_Key (.tmp 19) (.tmp 23) (.agg v19) (.agg v23)) .bool fun y24 =>
      cond y24 (
        C.ret (.bool false)
      ) (
        ct1 [(.int .i64 (IntKind.wrap .i64 (s1 + 1)))]
      )
    ) (
      C.ret (.bool true)
    )
  )
theorem slices_Equal_sl_impl_Key_impl_Key_eq (C : Comb) (x0 : Sl) (x1 : Sl) : fT C Try.prog { loop := [(4, [(13, (.int .i64))])], join := [], anyOrder := [], pure := [] } n_slices_Equal_sl_impl_Key_impl_Key [(.slice x0.a x0.n x0.c), (.slice x1.a x1.n x1.c)] = slices_Equal_sl_impl_Key_impl_Key C x0 x1 := by kernel_rfl
theorem slices_Equal_sl_impl_Key_impl_Key_calls {R : Value → World → Prop} {w : World} (x0 : Sl) (x1 : Sl) (h : (slices_Equal_sl_impl_Key_impl_Key (real Try.prog R) x0 x1 : World → Prop) w) :
    Calls Try.prog n_slices_Equal_sl_impl_Key_impl_Key [(.slice x0.a x0.n x0.c), (.slice x1.a x1.n x1.c)].toArray w fun e w' => ∃ v, e = .returned v ∧ R v w' := fT_sound mixed { loop := [(4, [(13, (.int .i64))])], join := [], anyOrder := [], pure := [] } (by rw [slices_Equal_sl_impl_Key_impl_Key_eq]; exact h)

/-- impl.clash (52) -/
def impl_clash (C : Comb) (x0 : Sl) (x1 : Sl) : C.St :=
  C.new ty_impl_Clash (.agg (Array.replicate 128 (.int .u8 0))) fun b4 =>
  C.call n_impl_size_impl_Key [(.slice x0.a x0.n x0.c)] [(.int .i64)] fun r8 =>
  C.call n_impl_leftOf [(.int .i64 r8)] [(.int .i64)] fun r9 =>
  C.join (TL [.ptr]) (embL [.ptr]) (fun s32 => C.any fun _ =>
      C.join (TL [.bool]) (embL [.bool]) (fun s39 => C.any fun _ =>
          cond s39 (
            C.ld .agg 128 s32 fun v40 =>
            C.st 128 (Addr.mk b4 0 none) (.agg v40) <|
            C.ld .agg 128 (Addr.mk b4 0 none) fun z41 =>
            C.ret (.agg z41)
          ) (
            C.join (TL [.bool]) (embL [.bool]) (fun s45 => C.any fun _ =>
                cond s45 (
                  C.draw <|
                  C.sl x0.a x0.n x0.c 32 none (some r9) none fun y52 =>
                  C.sl x1.a x1.n x1.c 32 none (some r9) none fun y55 =>
                  C.call n_impl_clash [(.slice y52.a y52.n y52.c), (.slice y55.a y55.n y55.c)] [.agg] fun r56 =>
                  C.st 128 (Addr.mk b4 0 none) (.agg r56) <|
                  C.ld .agg 128 (Addr.mk b4 0 none) fun z49 =>
                  C.ret (.agg z49)
                ) (
                  C.draw <|
                  C.sl x0.a x0.n x0.c 32 (some r9) none none fun y59 =>
                  C.sl x1.a x1.n x1.c 32 (some r9) none none fun y62 =>
                  C.call n_impl_clash [(.slice y59.a y59.n y59.c), (.slice y62.a y62.n y62.c)] [.agg] fun r63 =>
                  C.st 128 (Addr.mk b4 0 none) (.agg r63) <|
                  C.ld .agg 128 (Addr.mk b4 0 none) fun z53 =>
                  C.ret (.agg z53)
                )
              ) fun jt =>
            C.draw <|
            C.sl x0.a x0.n x0.c 32 none (some r9) none fun y44 =>
            C.sl x1.a x1.n x1.c 32 none (some r9) none fun y47 =>
            C.call n_slices_Equal_sl_impl_Key_impl_Key [(.slice y44.a y44.n y44.c), (.slice y47.a y47.n y47.c)] [.bool] fun r48 =>
            jt [(.bool (!r48))]
          )
        ) fun jt =>
      C.ld .agg 32 (s32.add 0) fun v29 =>
      C.ld .agg 32 (s32.add 64) fun v31 =>
      C.pur (eqB .neq ty_impl_Key (.tmp 29) (.tmp 31) (.agg v29) (.agg v31)) .bool fun y32 =>
      cond y32 (
        jt [(.bool true)]
      ) (
        C.ld .agg 32 (s32.add 32) fun v35 =>
        C.ld .agg 32 (s32.add 96) fun v37 =>
        C.pur (eqB .neq ty_impl_Key (.tmp 35) (.tmp 37) (.agg v35) (.agg v37)) .bool fun y38 =>
        jt [(.bool y38)]
      )
    ) fun jt =>
  C.draw <|
  C.sl x0.a x0.n x0.c 32 none (some r9) none fun y12 =>
  C.sl x0.a x0.n x0.c 32 (some r9) none none fun y16 =>
  C.sl x1.a x1.n x1.c 32 none (some r9) none fun y20 =>
  C.sl x1.a x1.n x1.c 32 (some r9) none none fun y24 =>
  C.all [
    (C.call n_impl_listKey [(.slice y12.a y12.n y12.c)] [.agg] fun r13 =>
     C.all [
       (C.call n_impl_listKey [(.slice y16.a y16.n y16.c)] [.agg] fun r17 =>
        C.all [
          (C.call n_impl_listKey [(.slice y20.a y20.n y20.c)] [.agg] fun r21 =>
           C.all [
             (C.call n_impl_listKey [(.slice y24.a y24.n y24.c)] [.agg] fun r25 =>
              C.pur (Instr.build ty_impl_Clash #[(0, (.agg r13)), (1, (.agg r17)), (2, (.agg r21)), (3, (.agg r25))]) .agg fun y26 =>
              C.new ty_impl_Clash (.agg (Array.replicate 128 (.int .u8 0))) fun b6 =>
              C.st 128 (Addr.mk b6 0 none) (.agg y26) <|
              jt [(.pointer (some (Addr.mk b6 0 none)))]),
             (C.new ty_impl_Clash (.agg (Array.replicate 128 (.int .u8 0))) fun b6 =>
              C.call n_impl_listKey [(.slice y24.a y24.n y24.c)] [.agg] fun r25 =>
              C.pur (Instr.build ty_impl_Clash #[(0, (.agg r13)), (1, (.agg r17)), (2, (.agg r21)), (3, (.agg r25))]) .agg fun y26 =>
              C.st 128 (Addr.mk b6 0 none) (.agg y26) <|
              jt [(.pointer (some (Addr.mk b6 0 none)))])]),
          (C.new ty_impl_Clash (.agg (Array.replicate 128 (.int .u8 0))) fun b6 =>
           C.call n_impl_listKey [(.slice y20.a y20.n y20.c)] [.agg] fun r21 =>
           C.call n_impl_listKey [(.slice y24.a y24.n y24.c)] [.agg] fun r25 =>
           C.pur (Instr.build ty_impl_Clash #[(0, (.agg r13)), (1, (.agg r17)), (2, (.agg r21)), (3, (.agg r25))]) .agg fun y26 =>
           C.st 128 (Addr.mk b6 0 none) (.agg y26) <|
           jt [(.pointer (some (Addr.mk b6 0 none)))])]),
       (C.new ty_impl_Clash (.agg (Array.replicate 128 (.int .u8 0))) fun b6 =>
        C.call n_impl_listKey [(.slice y16.a y16.n y16.c)] [.agg] fun r17 =>
        C.call n_impl_listKey [(.slice y20.a y20.n y20.c)] [.agg] fun r21 =>
        C.call n_impl_listKey [(.slice y24.a y24.n y24.c)] [.agg] fun r25 =>
        C.pur (Instr.build ty_impl_Clash #[(0, (.agg r13)), (1, (.agg r17)), (2, (.agg r21)), (3, (.agg r25))]) .agg fun y26 =>
        C.st 128 (Addr.mk b6 0 none) (.agg y26) <|
        jt [(.pointer (some (Addr.mk b6 0 none)))])]),
    (C.new ty_impl_Clash (.agg (Array.replicate 128 (.int .u8 0))) fun b6 =>
     C.call n_impl_listKey [(.slice y12.a y12.n y12.c)] [.agg] fun r13 =>
     C.call n_impl_listKey [(.slice y16.a y16.n y16.c)] [.agg] fun r17 =>
     C.call n_impl_listKey [(.slice y20.a y20.n y20.c)] [.agg] fun r21 =>
     C.call n_impl_listKey [(.slice y24.a y24.n y24.c)] [.agg] fun r25 =>
     C.pur (Instr.build ty_impl_Clash #[(0, (.agg r13)), (1, (.agg r17)), (2, (.agg r21)), (3, (.agg r25))]) .agg fun y26 =>
     C.st 128 (Addr.mk b6 0 none) (.agg y26) <|
     jt [(.pointer (some (Addr.mk b6 0 none)))])]
theorem impl_clash_eq (C : Comb) (x0 : Sl) (x1 : Sl) : fT C Try.prog { loop := [], join := [(7, [(6, .ptr)]), (10, [(27, .bool)]), (16, [(41, .bool)])], anyOrder := [2, 5, 6, 7], pure := [] } n_impl_clash [(.slice x0.a x0.n x0.c), (.slice x1.a x1.n x1.c)] = impl_clash C x0 x1 := by kernel_rfl
theorem impl_clash_calls {R : Value → World → Prop} {w : World} (x0 : Sl) (x1 : Sl) (h : (impl_clash (real Try.prog R) x0 x1 : World → Prop) w) :
    Calls Try.prog n_impl_clash [(.slice x0.a x0.n x0.c), (.slice x1.a x1.n x1.c)].toArray w fun e w' => ∃ v, e = .returned v ∧ R v w' := fT_sound mixed { loop := [], join := [(7, [(6, .ptr)]), (10, [(27, .bool)]), (16, [(41, .bool)])], anyOrder := [2, 5, 6, 7], pure := [] } (by rw [impl_clash_eq]; exact h)

/-- spec.l03Lists (53) -/
def spec_l03Lists (C : Comb) (x0 : Sl) (x1 : Sl) : C.St :=
  cond ((x0.n : Int) != (x1.n : Int)) (
    C.ret (.bool false)
  ) (
    C.loop (TL [(.int .i64)]) (embL [(.int .i64)]) [(.int .i64 0)] fun s1 ct1 => C.any fun _ =>
    cond (decide (s1 < (x0.n : Int))) (
      C.draw <|
      C.ix x0.a x0.n 32 s1 fun p19 =>
      C.ld .agg 32 p19 fun v20 =>
      C.ix x1.a x1.n 32 s1 fun p23 =>
      C.ld .agg 32 p23 fun v24 =>
      C.pur (eqB .neq ty_impl_Key (.tmp 20) (.tmp 24) (.agg v20) (.agg v24)) .bool fun y25 =>
      cond y25 (
        C.ret (.bool false)
      ) (
        ct1 [(.int .i64 (IntKind.wrap .i64 (s1 + 1)))]
      )
    ) (
      C.ret (.bool true)
    )
  )
theorem spec_l03Lists_eq (C : Comb) (x0 : Sl) (x1 : Sl) : fT C Try.prog { loop := [(4, [(5, (.int .i64))])], join := [], anyOrder := [], pure := [] } n_spec_l03Lists [(.slice x0.a x0.n x0.c), (.slice x1.a x1.n x1.c)] = spec_l03Lists C x0 x1 := by kernel_rfl
theorem spec_l03Lists_calls {R : Value → World → Prop} {w : World} (x0 : Sl) (x1 : Sl) (h : (spec_l03Lists (real Try.prog R) x0 x1 : World → Prop) w) :
    Calls Try.prog n_spec_l03Lists [(.slice x0.a x0.n x0.c), (.slice x1.a x1.n x1.c)].toArray w fun e w' => ∃ v, e = .returned v ∧ R v w' := fT_sound mixed { loop := [(4, [(5, (.int .i64))])], join := [], anyOrder := [], pure := [] } (by rw [spec_l03Lists_eq]; exact h)

/-- spec.l03Node (54) -/
def spec_l03Node (C : Comb) (x0 : Array Value) (x1 : Array Value) : C.St :=
  C.new ty_impl_Key (.agg x0) fun b2 =>
  C.new ty_impl_Key (.agg x1) fun b3 =>
  C.new ty_impl_Key (.agg (Array.replicate 32 (.int .u8 0))) fun b4 =>
  C.ld .agg 32 (Addr.mk b2 0 none) fun v5 =>
  C.ld .agg 32 (Addr.mk b3 0 none) fun v6 =>
  C.call n_spec_l01Pair [(.int .u8 2), (.agg v5), (.agg v6)] [.agg] fun r7 =>
  C.st 32 (Addr.mk b4 0 none) (.agg r7) <|
  C.ld .agg 32 (Addr.mk b4 0 none) fun z7 =>
  C.ret (.agg z7)
theorem spec_l03Node_eq (C : Comb) (x0 : Array Value) (x1 : Array Value) : fT C Try.prog { loop := [], join := [], anyOrder := [], pure := [] } n_spec_l03Node [(.agg x0), (.agg x1)] = spec_l03Node C x0 x1 := by kernel_rfl
theorem spec_l03Node_calls {R : Value → World → Prop} {w : World} (x0 : Array Value) (x1 : Array Value) (h : (spec_l03Node (real Try.prog R) x0 x1 : World → Prop) w) :
    Calls Try.prog n_spec_l03Node [(.agg x0), (.agg x1)].toArray w fun e w' => ∃ v, e = .returned v ∧ R v w' := fT_sound mixed { loop := [], join := [], anyOrder := [], pure := [] } (by rw [spec_l03Node_eq]; exact h)

/-- spec.l03Half (55) -/
def spec_l03Half (C : Comb) (x0 : Int) : C.St :=
  C.loop (TL [(.int .i64)]) (embL [(.int .i64)]) [(.int .i64 1)] fun s1 ct1 => C.any fun _ =>
  cond (decide ((IntKind.wrap .i64 (2 * s1)) < x0)) (
    ct1 [(.int .i64 (IntKind.wrap .i64 (2 * s1)))]
  ) (
    C.ret (.int .i64 s1)
  )
theorem spec_l03Half_eq (C : Comb) (x0 : Int) : fT C Try.prog { loop := [(2, [(3, (.int .i64))])], join := [], anyOrder := [], pure := [] } n_spec_l03Half [(.int .i64 x0)] = spec_l03Half C x0 := by kernel_rfl
theorem spec_l03Half_calls {R : Value → World → Prop} {w : World} (x0 : Int) (h : (spec_l03Half (real Try.prog R) x0 : World → Prop) w) :
    Calls Try.prog n_spec_l03Half [(.int .i64 x0)].toArray w fun e w' => ∃ v, e = .returned v ∧ R v w' := fT_sound mixed { loop := [(2, [(3, (.int .i64))])], join := [], anyOrder := [], pure := [] } (by rw [spec_l03Half_eq]; exact h)

/-- impl.PairKey (56) -/
def impl_PairKey (C : Comb) (x0 : Int) (x1 : Array Value) (x2 : Array Value) : C.St :=
  C.new ty_impl_Key (.agg x1) fun b4 =>
  C.new ty_impl_Key (.agg x2) fun b5 =>
  C.new ty_impl_Key (.agg (Array.replicate 32 (.int .u8 0))) fun b6 =>
  C.draw <|
  C.sl (some (Addr.mk b4 0 none)) 32 32 1 none none none fun y8 =>
  C.sl (some (Addr.mk b5 0 none)) 32 32 1 none none none fun y9 =>
  C.sem (Instr.buildSlice ty_sl_sl_uint8 2 #[(0, (.slice y8.a y8.n y8.c)), (1, (.slice y9.a y9.n y9.c))]) .slice fun y10 =>
  C.call n_slices_Concat_sl_byte_byte [(.slice y10.a y10.n y10.c)] [.slice] fun r11 =>
  C.call n_impl_hash [(.int .u8 x0), (.slice r11.a r11.n r11.c)] [.agg] fun r12 =>
  C.st 32 (Addr.mk b6 0 none) (.agg r12) <|
  C.ld .agg 32 (Addr.mk b6 0 none) fun z9 =>
  C.ret (.agg z9)
theorem impl_PairKey_eq (C : Comb) (x0 : Int) (x1 : Array Value) (x2 : Array Value) : fT C Try.prog { loop := [], join := [], anyOrder := [1], pure := [] } n_impl_PairKey [(.int .u8 x0), (.agg x1), (.agg x2)] = impl_PairKey C x0 x1 x2 := by kernel_rfl
theorem impl_PairKey_calls {R : Value → World → Prop} {w : World} (x0 : Int) (x1 : Array Value) (x2 : Array Value) (h : (impl_PairKey (real Try.prog R) x0 x1 x2 : World → Prop) w) :
    Calls Try.prog n_impl_PairKey [(.int .u8 x0), (.agg x1), (.agg x2)].toArray w fun e w' => ∃ v, e = .returned v ∧ R v w' := fT_sound mixed { loop := [], join := [], anyOrder := [1], pure := [] } (by rw [impl_PairKey_eq]; exact h)

/-- spec.l00Min (57) -/
def spec_l00Min (C : Comb) (x0 : Int) (x1 : Int) : C.St :=
  cond (decide (x0 < x1)) (
    C.ret (.int .i64 x0)
  ) (
    C.ret (.int .i64 x1)
  )
theorem spec_l00Min_eq (C : Comb) (x0 : Int) (x1 : Int) : fT C Try.prog { loop := [], join := [], anyOrder := [], pure := [] } n_spec_l00Min [(.int .i64 x0), (.int .i64 x1)] = spec_l00Min C x0 x1 := by kernel_rfl
theorem spec_l00Min_calls {R : Value → World → Prop} {w : World} (x0 : Int) (x1 : Int) (h : (spec_l00Min (real Try.prog R) x0 x1 : World → Prop) w) :
    Calls Try.prog n_spec_l00Min [(.int .i64 x0), (.int .i64 x1)].toArray w fun e w' => ∃ v, e = .returned v ∧ R v w' := fT_sound mixed { loop := [], join := [], anyOrder := [], pure := [] } (by rw [spec_l00Min_eq]; exact h)

/-- (*spec.l00Src).next (58) -/
def ptr_spec_l00Src_next (C : Comb) (x0 : Addr) : C.St :=
  C.join (TL [(.int .i64)]) (embL [(.int .i64)]) (fun s7 => C.any fun _ =>
      C.ld (.int .i64) 1 (x0.add 1) fun v28 =>
      C.st 1 (x0.add 1) (.int .i64 (IntKind.wrap .i64 (v28 + 1))) <|
      C.ld (.int .u64) 1 (x0.add 2) fun v36 =>
      C.st 1 (x0.add 2) (.int .u64 (IntKind.wrap .u64 ((IntKind.wrap .u64 ((IntKind.wrap .u64 (v36 * 6364136223846793005)) + (IntKind.wrap .u64 (s7)))) + 1442695040888963407))) <|
      C.draw <|
      C.ld (.int .i64) 1 (x0.add 1) fun v47 =>
      C.ld .slice 1 (x0.add 0) fun v51 =>
      cond (decide (v47 ≤ (v51.n : Int))) (
        C.ret (.int .i64 s7)
      ) (
        C.ld (.int .u64) 1 (x0.add 2) fun v58 =>
        C.ret (.int .i64 (IntKind.wrap .i64 ((bitsI .and .u64 (Int.fdiv v58 (2 ^ 40)) 255))))
      )
    ) fun jt =>
  C.draw <|
  C.ld (.int .i64) 1 (x0.add 1) fun v7 =>
  C.ld .slice 1 (x0.add 0) fun v11 =>
  cond (decide (v7 < (v11.n : Int))) (
    C.draw <|
    C.ld .slice 1 (x0.add 0) fun v17 =>
    C.ld (.int .i64) 1 (x0.add 1) fun v21 =>
    C.ix v17.a v17.n 1 v21 fun p22 =>
    C.ld (.int .u8) 1 p22 fun v23 =>
    jt [(.int .i64 (IntKind.wrap .i64 (v23)))]
  ) (
    jt [(.int .i64 0)]
  )
theorem ptr_spec_l00Src_next_eq (C : Comb) (x0 : Addr) : fT C Try.prog { loop := [], join := [(39, [(3, (.int .i64))])], anyOrder := [], pure := [] } n_ptr_spec_l00Src_next [(.pointer (some x0))] = ptr_spec_l00Src_next C x0 := by kernel_rfl
theorem ptr_spec_l00Src_next_calls {R : Value → World → Prop} {w : World} (x0 : Addr) (h : (ptr_spec_l00Src_next (real Try.prog R) x0 : World → Prop) w) :
    Calls Try.prog n_ptr_spec_l00Src_next [(.pointer (some x0))].toArray w fun e w' => ∃ v, e = .returned v ∧ R v w' := fT_sound mixed { loop := [], join := [(39, [(3, (.int .i64))])], anyOrder := [], pure := [] } (by rw [ptr_spec_l00Src_next_eq]; exact h)

/-- spec.l01Hash (59) -/
def spec_l01Hash (C : Comb) (x0 : Int) (x1 : Sl) : C.St :=
  C.new ty_impl_Key (.agg (Array.replicate 32 (.int .u8 0))) fun b4 =>
  C.call n_spec_l01Start [(.int .u8 x0)] [.agg] fun r6 =>
  C.call n_spec_l01End [(.agg r6), (.slice x1.a x1.n x1.c), (.int .i64 (x1.n : Int))] [.agg] fun r10 =>
  C.st 32 (Addr.mk b4 0 none) (.agg r10) <|
  C.ld .agg 32 (Addr.mk b4 0 none) fun z4 =>
  C.ret (.agg z4)
theorem spec_l01Hash_eq (C : Comb) (x0 : Int) (x1 : Sl) : fT C Try.prog { loop := [], join := [], anyOrder := [], pure := [] } n_spec_l01Hash [(.int .u8 x0), (.slice x1.a x1.n x1.c)] = spec_l01Hash C x0 x1 := by kernel_rfl
theorem spec_l01Hash_calls {R : Value → World → Prop} {w : World} (x0 : Int) (x1 : Sl) (h : (spec_l01Hash (real Try.prog R) x0 x1 : World → Prop) w) :
    Calls Try.prog n_spec_l01Hash [(.int .u8 x0), (.slice x1.a x1.n x1.c)].toArray w fun e w' => ∃ v, e = .returned v ∧ R v w' := fT_sound mixed { loop := [], join := [], anyOrder := [], pure := [] } (by rw [spec_l01Hash_eq]; exact h)

/-- spec.l01Data (60) -/
def spec_l01Data (C : Comb) (x0 : Addr) (x1 : Int) : C.St :=
  C.sem (Instr.buildSlice ty_sl_uint8 0 #[]) .slice fun y9 =>
  C.call n_ptr_spec_l00Src_one [(.pointer (some x0)), (.int .i64 2)] [.bool] fun r11 =>
  C.call n_ptr_spec_l00Src_pick [(.pointer (some x0)), (.int .i64 (IntKind.wrap .i64 (x1 + 1)))] [(.int .i64)] fun r15 =>
  C.loop (TL [.slice, (.int .i64)]) (embL [.slice, (.int .i64)]) [(.slice y9.a y9.n y9.c), (.int .i64 r15)] fun s4 ct4 => C.any fun _ =>
  cond (decide (s4.2 > 0)) (
    C.call n_ptr_spec_l00Src_pick [(.pointer (some x0)), (.int .i64 256)] [(.int .i64)] fun r21 =>
    cond r11 (
      C.call n_ptr_spec_l00Src_pick [(.pointer (some x0)), (.int .i64 3)] [(.int .i64)] fun r24 =>
      C.sem (Instr.buildSlice ty_sl_uint8 1 #[(0, (.int .u8 (IntKind.wrap .u8 (r24))))]) .slice fun y28 =>
      C.sem (Builtin.append_ #[ty_sl_uint8, ty_sl_uint8] ty_sl_uint8 #[(.slice s4.1.a s4.1.n s4.1.c), (.slice y28.a y28.n y28.c)]) .slice fun y29 =>
      ct4 [(.slice y29.a y29.n y29.c), (.int .i64 (IntKind.wrap .i64 (s4.2 - 1)))]
    ) (
      C.sem (Instr.buildSlice ty_sl_uint8 1 #[(0, (.int .u8 (IntKind.wrap .u8 (r21))))]) .slice fun y28 =>
      C.sem (Builtin.append_ #[ty_sl_uint8, ty_sl_uint8] ty_sl_uint8 #[(.slice s4.1.a s4.1.n s4.1.c), (.slice y28.a y28.n y28.c)]) .slice fun y29 =>
      ct4 [(.slice y29.a y29.n y29.c), (.int .i64 (IntKind.wrap .i64 (s4.2 - 1)))]
    )
  ) (
    C.ret (.slice s4.1.a s4.1.n s4.1.c)
  )
theorem spec_l01Data_eq (C : Comb) (x0 : Addr) (x1 : Int) : fT C Try.prog { loop := [(4, [(5, .slice), (7, (.int .i64))])], join := [], anyOrder := [], pure := [] } n_spec_l01Data [(.pointer (some x0)), (.int .i64 x1)] = spec_l01Data C x0 x1 := by kernel_rfl
theorem spec_l01Data_calls {R : Value → World → Prop} {w : World} (x0 : Addr) (x1 : Int) (h : (spec_l01Data (real Try.prog R) x0 x1 : World → Prop) w) :
    Calls Try.prog n_spec_l01Data [(.pointer (some x0)), (.int .i64 x1)].toArray w fun e w' => ∃ v, e = .returned v ∧ R v w' := fT_sound mixed { loop := [(4, [(5, .slice), (7, (.int .i64))])], join := [], anyOrder := [], pure := [] } (by rw [spec_l01Data_eq]; exact h)

/-- impl.hash (61) -/
def impl_hash (C : Comb) (x0 : Int) (x1 : Sl) : C.St :=
  C.new ty_impl_Key (.agg (Array.replicate 32 (.int .u8 0))) fun b4 =>
  C.call n_impl_size_byte [(.slice x1.a x1.n x1.c)] [(.int .i64)] fun r10 =>
  C.call n_impl_padding [(.int .i64 r10)] [.slice] fun r11 =>
  C.sem (Instr.buildSlice ty_sl_sl_uint8 2 #[(0, (.slice x1.a x1.n x1.c)), (1, (.slice r11.a r11.n r11.c))]) .slice fun y12 =>
  C.call n_slices_Concat_sl_byte_byte [(.slice y12.a y12.n y12.c)] [.slice] fun r13 =>
  C.call n_impl_blocks [(.slice r13.a r13.n r13.c)] [.slice, .slice] fun r14 =>
  C.call n_impl_StartState [(.int .u8 x0)] [.agg] fun r18 =>
  C.call n_impl_mixed [(.agg r18), (.slice r14.1.a r14.1.n r14.1.c)] [.agg] fun r20 =>
  C.call n_impl_keyOf [(.agg r20)] [.agg] fun r21 =>
  C.st 32 (Addr.mk b4 0 none) (.agg r21) <|
  C.ld .agg 32 (Addr.mk b4 0 none) fun z10 =>
  C.ret (.agg z10)
theorem impl_hash_eq (C : Comb) (x0 : Int) (x1 : Sl) : fT C Try.prog { loop := [], join := [], anyOrder := [], pure := [] } n_impl_hash [(.int .u8 x0), (.slice x1.a x1.n x1.c)] = impl_hash C x0 x1 := by kernel_rfl
theorem impl_hash_calls {R : Value → World → Prop} {w : World} (x0 : Int) (x1 : Sl) (h : (impl_hash (real Try.prog R) x0 x1 : World → Prop) w) :
    Calls Try.prog n_impl_hash [(.int .u8 x0), (.slice x1.a x1.n x1.c)].toArray w fun e w' => ∃ v, e = .returned v ∧ R v w' := fT_sound mixed { loop := [], join := [], anyOrder := [], pure := [] } (by rw [impl_hash_eq]; exact h)

/-- math/bits.Len (62) -/
def math_bits_Len (C : Comb) (x0 : Int) : C.St :=
  C.call n_math_bits_Len64 [(.int .u64 x0)] [(.int .i64)] fun r7 =>
  C.ret (.int .i64 r7)
theorem math_bits_Len_eq (C : Comb) (x0 : Int) : fT C Try.prog { loop := [], join := [], anyOrder := [], pure := [] } n_math_bits_Len [(.int .u64 x0)] = math_bits_Len C x0 := by kernel_rfl
theorem math_bits_Len_calls {R : Value → World → Prop} {w : World} (x0 : Int) (h : (math_bits_Len (real Try.prog R) x0 : World → Prop) w) :
    Calls Try.prog n_math_bits_Len [(.int .u64 x0)].toArray w fun e w' => ∃ v, e = .returned v ∧ R v w' := fT_sound mixed { loop := [], join := [], anyOrder := [], pure := [] } (by rw [math_bits_Len_eq]; exact h)

/-- slices.Reverse[[]bool,bool] (63) -/
def slices_Reverse_sl_bool_bool (C : Comb) (x0 : Sl) : C.St :=
  C.loop (TL [(.int .i64), (.int .i64)]) (embL [(.int .i64), (.int .i64)]) [(.int .i64 0), (.int .i64 (IntKind.wrap .i64 ((x0.n : Int) - 1)))] fun s1 ct1 => C.any fun _ =>
  cond (decide (s1.1 < s1.2)) (
    C.draw <|
    C.ix x0.a x0.n 1 s1.2 fun p20 =>
    C.ld .bool 1 p20 fun v21 =>
    C.ix x0.a x0.n 1 s1.1 fun p24 =>
    C.ld .bool 1 p24 fun v25 =>
    C.ix x0.a x0.n 1 s1.1 fun p26 =>
    C.st 1 p26 (.bool v21) <|
    C.ix x0.a x0.n 1 s1.2 fun p27 =>
    C.st 1 p27 (.bool v25) <|
    ct1 [(.int .i64 (IntKind.wrap .i64 (s1.1 + 1))), (.int .i64 (IntKind.wrap .i64 (s1.2 - 1)))]
  ) (
    C.ret (.tuple #[])
  )
theorem slices_Reverse_sl_bool_bool_eq (C : Comb) (x0 : Sl) : fT C Try.prog { loop := [(1, [(2, (.int .i64)), (3, (.int .i64))])], join := [], anyOrder := [3], pure := [] } n_slices_Reverse_sl_bool_bool [(.slice x0.a x0.n x0.c)] = slices_Reverse_sl_bool_bool C x0 := by kernel_rfl
theorem slices_Reverse_sl_bool_bool_calls {R : Value → World → Prop} {w : World} (x0 : Sl) (h : (slices_Reverse_sl_bool_bool (real Try.prog R) x0 : World → Prop) w) :
    Calls Try.prog n_slices_Reverse_sl_bool_bool [(.slice x0.a x0.n x0.c)].toArray w fun e w' => ∃ v, e = .returned v ∧ R v w' := fT_sound mixed { loop := [(1, [(2, (.int .i64)), (3, (.int .i64))])], join := [], anyOrder := [3], pure := [] } (by rw [slices_Reverse_sl_bool_bool_eq]; exact h)

/-- spec.l01Pair (64) -/
def spec_l01Pair (C : Comb) (x0 : Int) (x1 : Array Value) (x2 : Array Value) : C.St :=
  C.new ty_impl_Key (.agg x1) fun b4 =>
  C.new ty_impl_Key (.agg x2) fun b5 =>
  C.new ty_impl_Key (.agg (Array.replicate 32 (.int .u8 0))) fun b6 =>
  C.sem (Instr.buildSlice ty_sl_uint8 0 #[]) .slice fun y10 =>
  C.loop (TL [.slice, (.int .i64)]) (embL [.slice, (.int .i64)]) [(.slice y10.a y10.n y10.c), (.int .i64 0)] fun s5 ct5 => C.any fun _ =>
  cond (decide (s5.2 < 32)) (
    C.ix (some (Addr.mk b4 0 none)) 32 1 s5.2 fun p17 =>
    C.ld (.int .u8) 1 p17 fun v18 =>
    C.sem (Instr.buildSlice ty_sl_uint8 1 #[(0, (.int .u8 v18))]) .slice fun y19 =>
    C.sem (Builtin.append_ #[ty_sl_uint8, ty_sl_uint8] ty_sl_uint8 #[(.slice s5.1.a s5.1.n s5.1.c), (.slice y19.a y19.n y19.c)]) .slice fun y20 =>
    ct5 [(.slice y20.a y20.n y20.c), (.int .i64 (IntKind.wrap .i64 (s5.2 + 1)))]
  ) (
    C.loop (TL [.slice, (.int .i64)]) (embL [.slice, (.int .i64)]) [(.slice s5.1.a s5.1.n s5.1.c), (.int .i64 0)] fun s10 ct10 => C.any fun _ =>
    cond (decide (s10.2 < 32)) (
      C.ix (some (Addr.mk b5 0 none)) 32 1 s10.2 fun p27 =>
      C.ld (.int .u8) 1 p27 fun v28 =>
      C.sem (Instr.buildSlice ty_sl_uint8 1 #[(0, (.int .u8 v28))]) .slice fun y29 =>
      C.sem (Builtin.append_ #[ty_sl_uint8, ty_sl_uint8] ty_sl_uint8 #[(.slice s10.1.a s10.1.n s10.1.c), (.slice y29.a y29.n y29.c)]) .slice fun y30 =>
      ct10 [(.slice y30.a y30.n y30.c), (.int .i64 (IntKind.wrap .i64 (s10.2 + 1)))]
    ) (
      C.call n_spec_l01Hash [(.int .u8 x0), (.slice s10.1.a s10.1.n s10.1.c)] [.agg] fun r33 =>
      C.st 32 (Addr.mk b6 0 none) (.agg r33) <|
      C.ld .agg 32 (Addr.mk b6 0 none) fun z16 =>
      C.ret (.agg z16)
    )
  )
theorem spec_l01Pair_eq (C : Comb) (x0 : Int) (x1 : Array Value) (x2 : Array Value) : fT C Try.prog { loop := [(3, [(7, .slice), (8, (.int .i64))]), (7, [(7, .slice), (9, (.int .i64))])], join := [], anyOrder := [], pure := [] } n_spec_l01Pair [(.int .u8 x0), (.agg x1), (.agg x2)] = spec_l01Pair C x0 x1 x2 := by kernel_rfl
theorem spec_l01Pair_calls {R : Value → World → Prop} {w : World} (x0 : Int) (x1 : Array Value) (x2 : Array Value) (h : (spec_l01Pair (real Try.prog R) x0 x1 x2 : World → Prop) w) :
    Calls Try.prog n_spec_l01Pair [(.int .u8 x0), (.agg x1), (.agg x2)].toArray w fun e w' => ∃ v, e = .returned v ∧ R v w' := fT_sound mixed { loop := [(3, [(7, .slice), (8, (.int .i64))]), (7, [(7, .slice), (9, (.int .i64))])], join := [], anyOrder := [], pure := [] } (by rw [spec_l01Pair_eq]; exact h)

/-- slices.Concat[[]byte,byte] (65) -/
def slices_Concat_sl_byte_byte (C : Comb) (x0 : Sl) : C.St :=
  C.loop (TL [(.int .i64), (.int .i64)]) (embL [(.int .i64), (.int .i64)]) [(.int .i64 0), (.int .i64 0)] fun s1 ct1 => C.any fun _ =>
  cond (decide (s1.2 < (x0.n : Int))) (
    C.ix x0.a x0.n 1 s1.2 fun p13 =>
    C.ld .slice 1 p13 fun v14 =>
    cond (decide ((IntKind.wrap .i64 (s1.1 + (v14.n : Int))) < 0)) (
      C.pur (Instr.makeInterface ty_string (.string (⟨#[108, 101, 110, 32, 111, 117, 116, 32, 111, 102, 32, 114, 97, 110, 103, 101]⟩ : ByteArray))) .val fun y21 =>
      C.fail
    ) (
      ct1 [(.int .i64 (IntKind.wrap .i64 (s1.1 + (v14.n : Int)))), (.int .i64 (IntKind.wrap .i64 (s1.2 + 1)))]
    )
  ) (
    C.call n_slices_Grow_sl_byte_byte [(.slice none 0 0), (.int .i64 s1.1)] [.slice] fun r24 =>
    C.loop (TL [.slice, (.int .i64)]) (embL [.slice, (.int .i64)]) [(.slice r24.a r24.n r24.c), (.int .i64 0)] fun s6 ct6 => C.any fun _ =>
    cond (decide (s6.2 < (x0.n : Int))) (
      C.ix x0.a x0.n 1 s6.2 fun p29 =>
      C.ld .slice 1 p29 fun v30 =>
      C.sem (Builtin.append_ #[ty_sl_uint8, ty_sl_uint8] ty_sl_uint8 #[(.slice s6.1.a s6.1.n s6.1.c), (.slice v30.a v30.n v30.c)]) .slice fun y33 =>
      ct6 [(.slice y33.a y33.n y33.c), (.int .i64 (IntKind.wrap .i64 (s6.2 + 1)))]
    ) (
      C.ret (.slice s6.1.a s6.1.n s6.1.c)
    )
  )
theorem slices_Concat_sl_byte_byte_eq (C : Comb) (x0 : Sl) : fT C Try.prog { loop := [(3, [(3, (.int .i64)), (11, (.int .i64))]), (11, [(6, .slice), (27, (.int .i64))])], join := [], anyOrder := [], pure := [] } n_slices_Concat_sl_byte_byte [(.slice x0.a x0.n x0.c)] = slices_Concat_sl_byte_byte C x0 := by kernel_rfl
theorem slices_Concat_sl_byte_byte_calls {R : Value → World → Prop} {w : World} (x0 : Sl) (h : (slices_Concat_sl_byte_byte (real Try.prog R) x0 : World → Prop) w) :
    Calls Try.prog n_slices_Concat_sl_byte_byte [(.slice x0.a x0.n x0.c)].toArray w fun e w' => ∃ v, e = .returned v ∧ R v w' := fT_sound mixed { loop := [(3, [(3, (.int .i64)), (11, (.int .i64))]), (11, [(6, .slice), (27, (.int .i64))])], join := [], anyOrder := [], pure := [] } (by rw [slices_Concat_sl_byte_byte_eq]; exact h)

/-- spec.l01End (66) -/
def spec_l01End (C : Comb) (x0 : Array Value) (x1 : Sl) (x2 : Int) : C.St :=
  C.new ty_arr8_uint32 (.agg x0) fun b3 =>
  C.new ty_impl_Key (.agg (Array.replicate 32 (.int .u8 0))) fun b6 =>
  C.call n_spec_l01Padded [(.slice x1.a x1.n x1.c), (.int .i64 x2)] [.slice] fun r13 =>
  C.loop (TL [(.int .i64)]) (embL [(.int .i64)]) [(.int .i64 0)] fun s4 ct4 => C.any fun _ =>
  cond (decide (s4 < (r13.n : Int))) (
    C.draw <|
    C.ld .agg 8 (Addr.mk b3 0 none) fun v20 =>
    C.call n_spec_l01Block [(.slice r13.a r13.n r13.c), (.int .i64 s4)] [.agg] fun r23 =>
    C.chk [⟨0, 8, (Addr.mk b3 0 none), .agg, v20⟩] <|
    C.call n_spec_l01Mix [(.agg v20), (.agg r23)] [.agg] fun r24 =>
    C.st 8 (Addr.mk b3 0 none) (.agg r24) <|
    ct4 [(.int .i64 (IntKind.wrap .i64 (s4 + 32)))]
  ) (
    C.new ty_impl_Key (.agg (Array.replicate 32 (.int .u8 0))) fun b9 =>
    C.st 32 (Addr.mk b9 0 none) (.agg (Array.replicate 32 (.int .u8 0))) <|
    C.loop (TL [(.int .i64)]) (embL [(.int .i64)]) [(.int .i64 0)] fun s9 ct9 => C.any fun _ =>
    cond (decide (s9 < 32)) (
      C.ix (some (Addr.mk b3 0 none)) 8 1 (IntKind.wrap .i64 (Int.tdiv s9 4)) fun p33 =>
      C.ld (.int .u32) 1 p33 fun v34 =>
      C.pur (eqB .shr ty_uint32 (.tmp 34) (.tmp 38) (.int .u32 v34) (.int .u64 (IntKind.wrap .u64 ((IntKind.wrap .i64 (8 * (Int.tmod s9 4))))))) (.int .u32) fun y39 =>
      C.ix (some (Addr.mk b9 0 none)) 32 1 s9 fun p41 =>
      C.st 1 p41 (.int .u8 (IntKind.wrap .u8 (y39))) <|
      ct9 [(.int .i64 (IntKind.wrap .i64 (s9 + 1)))]
    ) (
      C.ld .agg 32 (Addr.mk b9 0 none) fun v42 =>
      C.st 32 (Addr.mk b6 0 none) (.agg v42) <|
      C.ld .agg 32 (Addr.mk b6 0 none) fun z15 =>
      C.ret (.agg z15)
    )
  )
theorem spec_l01End_eq (C : Comb) (x0 : Array Value) (x1 : Sl) (x2 : Int) : fT C Try.prog { loop := [(3, [(8, (.int .i64))]), (8, [(10, (.int .i64))])], join := [], anyOrder := [5], pure := [] } n_spec_l01End [(.agg x0), (.slice x1.a x1.n x1.c), (.int .i64 x2)] = spec_l01End C x0 x1 x2 := by kernel_rfl
theorem spec_l01End_calls {R : Value → World → Prop} {w : World} (x0 : Array Value) (x1 : Sl) (x2 : Int) (h : (spec_l01End (real Try.prog R) x0 x1 x2 : World → Prop) w) :
    Calls Try.prog n_spec_l01End [(.agg x0), (.slice x1.a x1.n x1.c), (.int .i64 x2)].toArray w fun e w' => ∃ v, e = .returned v ∧ R v w' := fT_sound mixed { loop := [(3, [(8, (.int .i64))]), (8, [(10, (.int .i64))])], join := [], anyOrder := [5], pure := [] } (by rw [spec_l01End_eq]; exact h)

/-- spec.l01Start (67) -/
def spec_l01Start (C : Comb) (x0 : Int) : C.St :=
  C.new ty_arr8_uint32 (.agg (Array.replicate 8 (.int .u32 0))) fun b2 =>
  C.new ty_arr8_uint32 (.agg (Array.replicate 8 (.int .u32 0))) fun b3 =>
  C.st 8 (Addr.mk b3 0 none) (.agg (Array.replicate 8 (.int .u32 0))) <|
  C.loop (TL [(.int .i64)]) (embL [(.int .i64)]) [(.int .i64 0)] fun s3 ct3 => C.any fun _ =>
  cond (decide (s3 < 8)) (
    C.ix (some (Addr.mk b3 0 none)) 8 1 s3 fun p18 =>
    C.st 1 p18 (.int .u32 (IntKind.wrap .u32 ((IntKind.wrap .u32 (16777619 * (IntKind.wrap .u32 ((IntKind.wrap .i64 (s3 + 1)))))) + (IntKind.wrap .u32 (x0))))) <|
    ct3 [(.int .i64 (IntKind.wrap .i64 (s3 + 1)))]
  ) (
    C.ld .agg 8 (Addr.mk b3 0 none) fun v19 =>
    C.st 8 (Addr.mk b2 0 none) (.agg v19) <|
    C.ld .agg 8 (Addr.mk b2 0 none) fun z6 =>
    C.ret (.agg z6)
  )
theorem spec_l01Start_eq (C : Comb) (x0 : Int) : fT C Try.prog { loop := [(3, [(4, (.int .i64))])], join := [], anyOrder := [], pure := [] } n_spec_l01Start [(.int .u8 x0)] = spec_l01Start C x0 := by kernel_rfl
theorem spec_l01Start_calls {R : Value → World → Prop} {w : World} (x0 : Int) (h : (spec_l01Start (real Try.prog R) x0 : World → Prop) w) :
    Calls Try.prog n_spec_l01Start [(.int .u8 x0)].toArray w fun e w' => ∃ v, e = .returned v ∧ R v w' := fT_sound mixed { loop := [(3, [(4, (.int .i64))])], join := [], anyOrder := [], pure := [] } (by rw [spec_l01Start_eq]; exact h)

/-- (*spec.l00Src).one (68) -/
def ptr_spec_l00Src_one (C : Comb) (x0 : Addr) (x1 : Int) : C.St :=
  C.call n_ptr_spec_l00Src_pick [(.pointer (some x0)), (.int .i64 x1)] [(.int .i64)] fun r7 =>
  C.ret (.bool (r7 == 0))
theorem ptr_spec_l00Src_one_eq (C : Comb) (x0 : Addr) (x1 : Int) : fT C Try.prog { loop := [], join := [], anyOrder := [], pure := [] } n_ptr_spec_l00Src_one [(.pointer (some x0)), (.int .i64 x1)] = ptr_spec_l00Src_one C x0 x1 := by kernel_rfl
theorem ptr_spec_l00Src_one_calls {R : Value → World → Prop} {w : World} (x0 : Addr) (x1 : Int) (h : (ptr_spec_l00Src_one (real Try.prog R) x0 x1 : World → Prop) w) :
    Calls Try.prog n_ptr_spec_l00Src_one [(.pointer (some x0)), (.int .i64 x1)].toArray w fun e w' => ∃ v, e = .returned v ∧ R v w' := fT_sound mixed { loop := [], join := [], anyOrder := [], pure := [] } (by rw [ptr_spec_l00Src_one_eq]; exact h)

/-- impl.blocks (69) -/
def impl_blocks (C : Comb) (x0 : Sl) : C.St :=
  C.sem (Instr.buildSlice ty_sl_arr32_uint8 0 #[]) .slice fun y5 =>
  C.loop (TL [.slice, .slice]) (embL [.slice, .slice]) [(.slice x0.a x0.n x0.c), (.slice y5.a y5.n y5.c)] fun s2 ct2 => C.any fun _ =>
  cond (decide ((s2.1.n : Int) ≥ 32)) (
    C.pur (Instr.arrayAt ty_arr32_uint8 (.slice s2.1.a s2.1.n s2.1.c)) .ptr fun y11 =>
    C.ld .agg 32 y11 fun v12 =>
    C.sem (Instr.buildSlice ty_sl_arr32_uint8 1 #[(0, (.agg v12))]) .slice fun y13 =>
    C.sem (Builtin.append_ #[ty_sl_arr32_uint8, ty_sl_arr32_uint8] ty_sl_arr32_uint8 #[(.slice s2.2.a s2.2.n s2.2.c), (.slice y13.a y13.n y13.c)]) .slice fun y14 =>
    C.sl s2.1.a s2.1.n s2.1.c 1 (some 32) none none fun y16 =>
    ct2 [(.slice y16.a y16.n y16.c), (.slice y14.a y14.n y14.c)]
  ) (
    C.ret (.tuple #[(.slice s2.2.a s2.2.n s2.2.c), (.slice s2.1.a s2.1.n s2.1.c)])
  )
theorem impl_blocks_eq (C : Comb) (x0 : Sl) : fT C Try.prog { loop := [(2, [(0, .slice), (4, .slice)])], join := [], anyOrder := [], pure := [] } n_impl_blocks [(.slice x0.a x0.n x0.c)] = impl_blocks C x0 := by kernel_rfl
theorem impl_blocks_calls {R : Value → World → Prop} {w : World} (x0 : Sl) (h : (impl_blocks (real Try.prog R) x0 : World → Prop) w) :
    Calls Try.prog n_impl_blocks [(.slice x0.a x0.n x0.c)].toArray w fun e w' => ∃ v, e = .returned v ∧ R v w' := fT_sound mixed { loop := [(2, [(0, .slice), (4, .slice)])], join := [], anyOrder := [], pure := [] } (by rw [impl_blocks_eq]; exact h)

/-- impl.padding (70) -/
def impl_padding (C : Comb) (x0 : Int) : C.St :=
  C.sem (Instr.buildSlice ty_sl_uint8 1 #[(0, (.int .u8 128))]) .slice fun y4 =>
  C.loop (TL [.slice]) (embL [.slice]) [(.slice y4.a y4.n y4.c)] fun s2 ct2 => C.any fun _ =>
  C.call n_impl_size_byte [(.slice s2.a s2.n s2.c)] [(.int .i64)] fun r7 =>
  cond ((Int.tmod (IntKind.wrap .i64 (x0 + r7)) 32) != 24) (
    C.sem (Instr.buildSlice ty_sl_uint8 1 #[(0, (.int .u8 0))]) .slice fun y12 =>
    C.sem (Builtin.append_ #[ty_sl_uint8, ty_sl_uint8] ty_sl_uint8 #[(.slice s2.a s2.n s2.c), (.slice y12.a y12.n y12.c)]) .slice fun y13 =>
    ct2 [(.slice y13.a y13.n y13.c)]
  ) (
    C.call n_impl_appendLittle [(.slice s2.a s2.n s2.c), (.int .u64 (IntKind.wrap .u64 (x0))), (.int .i64 8)] [.slice] fun r17 =>
    C.ret (.slice r17.a r17.n r17.c)
  )
theorem impl_padding_eq (C : Comb) (x0 : Int) : fT C Try.prog { loop := [(2, [(3, .slice)])], join := [], anyOrder := [], pure := [] } n_impl_padding [(.int .i64 x0)] = impl_padding C x0 := by kernel_rfl
theorem impl_padding_calls {R : Value → World → Prop} {w : World} (x0 : Int) (h : (impl_padding (real Try.prog R) x0 : World → Prop) w) :
    Calls Try.prog n_impl_padding [(.int .i64 x0)].toArray w fun e w' => ∃ v, e = .returned v ∧ R v w' := fT_sound mixed { loop := [(2, [(3, .slice)])], join := [], anyOrder := [], pure := [] } (by rw [impl_padding_eq]; exact h)

/-- impl.size[byte] (71) -/
def impl_size_byte (C : Comb) (x0 : Sl) : C.St :=
  C.ret (.int .i64 (x0.n : Int))
theorem impl_size_byte_eq (C : Comb) (x0 : Sl) : fT C Try.prog { loop := [], join := [], anyOrder := [], pure := [] } n_impl_size_byte [(.slice x0.a x0.n x0.c)] = impl_size_byte C x0 := by kernel_rfl
theorem impl_size_byte_calls {R : Value → World → Prop} {w : World} (x0 : Sl) (h : (impl_size_byte (real Try.prog R) x0 : World → Prop) w) :
    Calls Try.prog n_impl_size_byte [(.slice x0.a x0.n x0.c)].toArray w fun e w' => ∃ v, e = .returned v ∧ R v w' := fT_sound mixed { loop := [], join := [], anyOrder := [], pure := [] } (by rw [impl_size_byte_eq]; exact h)

/-- impl.keyOf (72) -/
def impl_keyOf (C : Comb) (x0 : Array Value) : C.St :=
  C.new ty_arr8_uint32 (.agg x0) fun b1 =>
  C.new ty_impl_Key (.agg (Array.replicate 32 (.int .u8 0))) fun b2 =>
  C.new ty_impl_Key (.agg (Array.replicate 32 (.int .u8 0))) fun b3 =>
  C.st 32 (Addr.mk b3 0 none) (.agg (Array.replicate 32 (.int .u8 0))) <|
  C.ld .agg 8 (Addr.mk b1 0 none) fun v7 =>
  C.loop (TL [(.int .i64)]) (embL [(.int .i64)]) [(.int .i64 0)] fun s5 ct5 => C.any fun _ =>
  cond (decide (s5 < 8)) (
    C.ixV (.int .u32) v7 8 1 s5 fun y11 =>
    C.draw <|
    C.sl (some (Addr.mk b3 0 none)) 32 32 1 (some (IntKind.wrap .i64 (4 * s5))) none none fun y14 =>
    C.call n_impl_appendLittle [(.slice none 0 0), (.int .u64 (IntKind.wrap .u64 (y11))), (.int .i64 4)] [.slice] fun r17 =>
    C.sem (Builtin.copy_ #[ty_sl_uint8, ty_sl_uint8] ty_int #[(.slice y14.a y14.n y14.c), (.slice r17.a r17.n r17.c)]) (.int .i64) fun y18 =>
    ct5 [(.int .i64 (IntKind.wrap .i64 (s5 + 1)))]
  ) (
    C.ld .agg 32 (Addr.mk b3 0 none) fun v20 =>
    C.st 32 (Addr.mk b2 0 none) (.agg v20) <|
    C.ld .agg 32 (Addr.mk b2 0 none) fun z11 =>
    C.ret (.agg z11)
  )
theorem impl_keyOf_eq (C : Comb) (x0 : Array Value) : fT C Try.prog { loop := [(3, [(8, (.int .i64))])], join := [], anyOrder := [5], pure := [] } n_impl_keyOf [(.agg x0)] = impl_keyOf C x0 := by kernel_rfl
theorem impl_keyOf_calls {R : Value → World → Prop} {w : World} (x0 : Array Value) (h : (impl_keyOf (real Try.prog R) x0 : World → Prop) w) :
    Calls Try.prog n_impl_keyOf [(.agg x0)].toArray w fun e w' => ∃ v, e = .returned v ∧ R v w' := fT_sound mixed { loop := [(3, [(8, (.int .i64))])], join := [], anyOrder := [5], pure := [] } (by rw [impl_keyOf_eq]; exact h)

/-- impl.mixed (73) -/
def impl_mixed (C : Comb) (x0 : Array Value) (x1 : Sl) : C.St :=
  C.new ty_arr8_uint32 (.agg x0) fun b2 =>
  C.new ty_arr8_uint32 (.agg (Array.replicate 8 (.int .u32 0))) fun b4 =>
  C.loop (TL [(.int .i64)]) (embL [(.int .i64)]) [(.int .i64 0)] fun s3 ct3 => C.any fun _ =>
  cond (decide (s3 < (x1.n : Int))) (
    C.ix x1.a x1.n 32 s3 fun p11 =>
    C.ld .agg 32 p11 fun v12 =>
    C.new ty_arr32_uint8 (.agg (Array.replicate 32 (.int .u8 0))) fun b6 =>
    C.st 32 (Addr.mk b6 0 none) (.agg v12) <|
    C.ld .agg 8 (Addr.mk b2 0 none) fun v13 =>
    C.ld .agg 32 (Addr.mk b6 0 none) fun v14 =>
    C.call n_impl_MixBlock [(.agg v13), (.agg v14)] [.agg] fun r15 =>
    C.st 8 (Addr.mk b2 0 none) (.agg r15) <|
    ct3 [(.int .i64 (IntKind.wrap .i64 (s3 + 1)))]
  ) (
    C.ld .agg 8 (Addr.mk b2 0 none) fun v17 =>
    C.st 8 (Addr.mk b4 0 none) (.agg v17) <|
    C.ld .agg 8 (Addr.mk b4 0 none) fun z11 =>
    C.ret (.agg z11)
  )
theorem impl_mixed_eq (C : Comb) (x0 : Array Value) (x1 : Sl) : fT C Try.prog { loop := [(2, [(9, (.int .i64))])], join := [], anyOrder := [], pure := [] } n_impl_mixed [(.agg x0), (.slice x1.a x1.n x1.c)] = impl_mixed C x0 x1 := by kernel_rfl
theorem impl_mixed_calls {R : Value → World → Prop} {w : World} (x0 : Array Value) (x1 : Sl) (h : (impl_mixed (real Try.prog R) x0 x1 : World → Prop) w) :
    Calls Try.prog n_impl_mixed [(.agg x0), (.slice x1.a x1.n x1.c)].toArray w fun e w' => ∃ v, e = .returned v ∧ R v w' := fT_sound mixed { loop := [(2, [(9, (.int .i64))])], join := [], anyOrder := [], pure := [] } (by rw [impl_mixed_eq]; exact h)

/-- impl.StartState (74) -/
def impl_StartState (C : Comb) (x0 : Int) : C.St :=
  C.new ty_arr8_uint32 (.agg (Array.replicate 8 (.int .u32 0))) fun b2 =>
  C.new ty_arr8_uint32 (.agg (Array.replicate 8 (.int .u32 0))) fun b3 =>
  C.st 8 (Addr.mk b3 0 none) (.agg (Array.replicate 8 (.int .u32 0))) <|
  C.loop (TL [(.int .i64)]) (embL [(.int .i64)]) [(.int .i64 0)] fun s3 ct3 => C.any fun _ =>
  cond (decide (s3 < 8)) (
    C.ix (some (Addr.mk b3 0 none)) 8 1 s3 fun p17 =>
    C.st 1 p17 (.int .u32 (IntKind.wrap .u32 ((IntKind.wrap .u32 (16777619 * (IntKind.wrap .u32 ((IntKind.wrap .i64 (s3 + 1)))))) + (IntKind.wrap .u32 (x0))))) <|
    ct3 [(.int .i64 (IntKind.wrap .i64 (s3 + 1)))]
  ) (
    C.ld .agg 8 (Addr.mk b3 0 none) fun v19 =>
    C.st 8 (Addr.mk b2 0 none) (.agg v19) <|
    C.ld .agg 8 (Addr.mk b2 0 none) fun z6 =>
    C.ret (.agg z6)
  )
theorem impl_StartState_eq (C : Comb) (x0 : Int) : fT C Try.prog { loop := [(3, [(6, (.int .i64))])], join := [], anyOrder := [], pure := [] } n_impl_StartState [(.int .u8 x0)] = impl_StartState C x0 := by kernel_rfl
theorem impl_StartState_calls {R : Value → World → Prop} {w : World} (x0 : Int) (h : (impl_StartState (real Try.prog R) x0 : World → Prop) w) :
    Calls Try.prog n_impl_StartState [(.int .u8 x0)].toArray w fun e w' => ∃ v, e = .returned v ∧ R v w' := fT_sound mixed { loop := [(3, [(6, (.int .i64))])], join := [], anyOrder := [], pure := [] } (by rw [impl_StartState_eq]; exact h)

/-- math/bits.Len32 (75) -/
def math_bits_Len32 (C : Comb) (x0 : Int) : C.St :=
  C.join (TL [(.int .u32), (.int .i64)]) (embL [(.int .u32), (.int .i64)]) (fun s1 => C.any fun _ =>
      C.join (TL [(.int .u32), (.int .i64)]) (embL [(.int .u32), (.int .i64)]) (fun s2 => C.any fun _ =>
          C.ixS (⟨#[0, 1, 2, 2, 3, 3, 3, 3, 4, 4, 4, 4, 4, 4, 4, 4, 5, 5, 5, 5, 5, 5, 5, 5, 5, 5, 5, 5, 5, 5, 5, 5, 6, 6, 6, 6, 6, 6, 6, 6, 6, 6, 6, 6, 6, 6, 6, 6, 6, 6, 6, 6, 6, 6, 6, 6, 6, 6, 6, 6, 6, 6, 6, 6, 7, 7, 7, 7, 7, 7, 7, 7, 7, 7, 7, 7, 7, 7, 7, 7, 7, 7, 7, 7, 7, 7, 7, 7, 7, 7, 7, 7, 7, 7, 7, 7, 7, 7, 7, 7, 7, 7, 7, 7, 7, 7, 7, 7, 7, 7, 7, 7, 7, 7, 7, 7, 7, 7, 7, 7, 7, 7, 7, 7, 7, 7, 7, 7, 8, 8, 8, 8, 8, 8, 8, 8, 8, 8, 8, 8, 8, 8, 8, 8, 8, 8, 8, 8, 8, 8, 8, 8, 8, 8, 8, 8, 8, 8, 8, 8, 8, 8, 8, 8, 8, 8, 8, 8, 8, 8, 8, 8, 8, 8, 8, 8, 8, 8, 8, 8, 8, 8, 8, 8, 8, 8, 8, 8, 8, 8, 8, 8, 8, 8, 8, 8, 8, 8, 8, 8, 8, 8, 8, 8, 8, 8, 8, 8, 8, 8, 8, 8, 8, 8, 8, 8, 8, 8, 8, 8, 8, 8, 8, 8, 8, 8, 8, 8, 8, 8, 8, 8, 8, 8, 8, 8, 8, 8, 8, 8, 8, 8, 8, 8, 8, 8, 8, 8, 8, 8, 8, 8, 8, 8, 8, 8]⟩ : ByteArray) (IntKind.wrap .u8 (s2.1)) fun y16 =>
          C.ret (.int .i64 (IntKind.wrap .i64 (s2.2 + (IntKind.wrap .i64 (y16)))))
        ) fun jt =>
      cond (decide (s1.1 ≥ 256)) (
        jt [(.int .u32 (Int.fdiv s1.1 (2 ^ 8))), (.int .i64 (IntKind.wrap .i64 (s1.2 + 8)))]
      ) (
        jt [(.int .u32 s1.1), (.int .i64 s1.2)]
      )
    ) fun jt =>
  cond (decide (x0 ≥ 65536)) (
    jt [(.int .u32 (Int.fdiv x0 (2 ^ 16))), (.int .i64 16)]
  ) (
    jt [(.int .u32 x0), (.int .i64 0)]
  )
theorem math_bits_Len32_eq (C : Comb) (x0 : Int) : fT C Try.prog { loop := [], join := [(12, [(0, (.int .u32)), (2, (.int .i64))]), (24, [(0, (.int .u32)), (2, (.int .i64))])], anyOrder := [], pure := [] } n_math_bits_Len32 [(.int .u32 x0)] = math_bits_Len32 C x0 := by kernel_rfl
theorem math_bits_Len32_calls {R : Value → World → Prop} {w : World} (x0 : Int) (h : (math_bits_Len32 (real Try.prog R) x0 : World → Prop) w) :
    Calls Try.prog n_math_bits_Len32 [(.int .u32 x0)].toArray w fun e w' => ∃ v, e = .returned v ∧ R v w' := fT_sound mixed { loop := [], join := [(12, [(0, (.int .u32)), (2, (.int .i64))]), (24, [(0, (.int .u32)), (2, (.int .i64))])], anyOrder := [], pure := [] } (by rw [math_bits_Len32_eq]; exact h)

/-- slices.Grow[[]byte,byte] (76) -/
def slices_Grow_sl_byte_byte (C : Comb) (x0 : Sl) (x1 : Int) : C.St :=
  C.join (TL []) (embL []) (fun s2 => C.any fun _ =>
      cond (decide ((IntKind.wrap .i64 (x1 - (IntKind.wrap .i64 ((x0.c : Int) - (x0.n : Int))))) > 0)) (
        C.sl x0.a x0.n x0.c 1 none (some (x0.c : Int)) none fun y20 =>
        C.sem (Builtin.append_ #[ty_sl_uint8, ty_int] ty_sl_uint8 #[(.slice y20.a y20.n y20.c), (.int .i64 (IntKind.wrap .i64 (x1 - (IntKind.wrap .i64 ((x0.c : Int) - (x0.n : Int))))))]) .slice fun y22 =>
        C.sl y22.a y22.n y22.c 1 none (some (x0.n : Int)) none fun y25 =>
        C.ret (.slice y25.a y25.n y25.c)
      ) (
        C.ret (.slice x0.a x0.n x0.c)
      )
    ) fun jt =>
  cond (decide (x1 < 0)) (
    C.pur (Instr.makeInterface ty_string (.string (⟨#[99, 97, 110, 110, 111, 116, 32, 98, 101, 32, 110, 101, 103, 97, 116, 105, 118, 101]⟩ : ByteArray))) .val fun y7 =>
    C.fail
  ) (
    jt []
  )
theorem slices_Grow_sl_byte_byte_eq (C : Comb) (x0 : Sl) (x1 : Int) : fT C Try.prog { loop := [], join := [(18, [])], anyOrder := [], pure := [] } n_slices_Grow_sl_byte_byte [(.slice x0.a x0.n x0.c), (.int .i64 x1)] = slices_Grow_sl_byte_byte C x0 x1 := by kernel_rfl
theorem slices_Grow_sl_byte_byte_calls {R : Value → World → Prop} {w : World} (x0 : Sl) (x1 : Int) (h : (slices_Grow_sl_byte_byte (real Try.prog R) x0 x1 : World → Prop) w) :
    Calls Try.prog n_slices_Grow_sl_byte_byte [(.slice x0.a x0.n x0.c), (.int .i64 x1)].toArray w fun e w' => ∃ v, e = .returned v ∧ R v w' := fT_sound mixed { loop := [], join := [(18, [])], anyOrder := [], pure := [] } (by rw [slices_Grow_sl_byte_byte_eq]; exact h)

/-- spec.l01Padded (77) -/
def spec_l01Padded (C : Comb) (x0 : Sl) (x1 : Int) : C.St :=
  C.sem (Instr.buildSlice ty_sl_uint8 0 #[]) .slice fun y7 =>
  C.sem (Builtin.append_ #[ty_sl_uint8, ty_sl_uint8] ty_sl_uint8 #[(.slice y7.a y7.n y7.c), (.slice x0.a x0.n x0.c)]) .slice fun y9 =>
  C.sem (Instr.buildSlice ty_sl_uint8 1 #[(0, (.int .u8 128))]) .slice fun y10 =>
  C.sem (Builtin.append_ #[ty_sl_uint8, ty_sl_uint8] ty_sl_uint8 #[(.slice y9.a y9.n y9.c), (.slice y10.a y10.n y10.c)]) .slice fun y11 =>
  C.loop (TL [.slice]) (embL [.slice]) [(.slice y11.a y11.n y11.c)] fun s5 ct5 => C.any fun _ =>
  cond ((Int.tmod (s5.n : Int) 32) != 24) (
    C.sem (Instr.buildSlice ty_sl_uint8 1 #[(0, (.int .u8 0))]) .slice fun y17 =>
    C.sem (Builtin.append_ #[ty_sl_uint8, ty_sl_uint8] ty_sl_uint8 #[(.slice s5.a s5.n s5.c), (.slice y17.a y17.n y17.c)]) .slice fun y18 =>
    ct5 [(.slice y18.a y18.n y18.c)]
  ) (
    C.loop (TL [(.int .i64), .slice, (.int .i64)]) (embL [(.int .i64), .slice, (.int .i64)]) [(.int .i64 x1), (.slice s5.a s5.n s5.c), (.int .i64 0)] fun s8 ct8 => C.any fun _ =>
    cond (decide (s8.2.2 < 8)) (
      C.sem (Instr.buildSlice ty_sl_uint8 1 #[(0, (.int .u8 (IntKind.wrap .u8 ((Int.tmod s8.1 256)))))]) .slice fun y27 =>
      C.sem (Builtin.append_ #[ty_sl_uint8, ty_sl_uint8] ty_sl_uint8 #[(.slice s8.2.1.a s8.2.1.n s8.2.1.c), (.slice y27.a y27.n y27.c)]) .slice fun y28 =>
      ct8 [(.int .i64 (IntKind.wrap .i64 (Int.tdiv s8.1 256))), (.slice y28.a y28.n y28.c), (.int .i64 (IntKind.wrap .i64 (s8.2.2 + 1)))]
    ) (
      C.ret (.slice s8.2.1.a s8.2.1.n s8.2.1.c)
    )
  )
theorem spec_l01Padded_eq (C : Comb) (x0 : Sl) (x1 : Int) : fT C Try.prog { loop := [(2, [(5, .slice)]), (5, [(1, (.int .i64)), (5, .slice), (6, (.int .i64))])], join := [], anyOrder := [], pure := [] } n_spec_l01Padded [(.slice x0.a x0.n x0.c), (.int .i64 x1)] = spec_l01Padded C x0 x1 := by kernel_rfl
theorem spec_l01Padded_calls {R : Value → World → Prop} {w : World} (x0 : Sl) (x1 : Int) (h : (spec_l01Padded (real Try.prog R) x0 x1 : World → Prop) w) :
    Calls Try.prog n_spec_l01Padded [(.slice x0.a x0.n x0.c), (.int .i64 x1)].toArray w fun e w' => ∃ v, e = .returned v ∧ R v w' := fT_sound mixed { loop := [(2, [(5, .slice)]), (5, [(1, (.int .i64)), (5, .slice), (6, (.int .i64))])], join := [], anyOrder := [], pure := [] } (by rw [spec_l01Padded_eq]; exact h)

/-- spec.l01Mix (78) -/
def spec_l01Mix (C : Comb) (x0 : Array Value) (x1 : Array Value) : C.St :=
  C.new ty_arr8_uint32 (.agg x0) fun b2 =>
  C.new ty_arr32_uint8 (.agg x1) fun b3 =>
  C.new ty_arr8_uint32 (.agg (Array.replicate 8 (.int .u32 0))) fun b4 =>
  C.new ty_arr8_uint32 (.agg (Array.replicate 8 (.int .u32 0))) fun b5 =>
  C.st 8 (Addr.mk b5 0 none) (.agg (Array.replicate 8 (.int .u32 0))) <|
  C.loop (TL [(.int .i64)]) (embL [(.int .i64)]) [(.int .i64 0)] fun s5 ct5 => C.any fun _ =>
  cond (decide (s5 < 8)) (
    C.loop (TL [(.int .i64)]) (embL [(.int .i64)]) [(.int .i64 3)] fun s6 ct6 => C.any fun _ =>
    cond (decide (s6 ≥ 0)) (
      C.draw <|
      C.ix (some (Addr.mk b5 0 none)) 8 1 s5 fun p25 =>
      C.ld (.int .u32) 1 p25 fun v26 =>
      C.ix (some (Addr.mk b3 0 none)) 32 1 (IntKind.wrap .i64 ((IntKind.wrap .i64 (4 * s5)) + s6)) fun p32 =>
      C.ld (.int .u8) 1 p32 fun v33 =>
      C.ix (some (Addr.mk b5 0 none)) 8 1 s5 fun p36 =>
      C.st 1 p36 (.int .u32 (bitsI .or .u32 (IntKind.wrap .u32 (v26 * 2 ^ 8)) (IntKind.wrap .u32 (v33)))) <|
      ct6 [(.int .i64 (IntKind.wrap .i64 (s6 - 1)))]
    ) (
      ct5 [(.int .i64 (IntKind.wrap .i64 (s5 + 1)))]
    )
  ) (
    C.ld .agg 8 (Addr.mk b2 0 none) fun v37 =>
    C.new ty_arr8_uint32 (.agg (Array.replicate 8 (.int .u32 0))) fun b8 =>
    C.st 8 (Addr.mk b8 0 none) (.agg v37) <|
    C.loop (TL [(.int .i64)]) (embL [(.int .i64)]) [(.int .i64 0)] fun s14 ct14 => C.any fun _ =>
    cond (decide (s14 < 12)) (
      C.loop (TL [(.int .i64)]) (embL [(.int .i64)]) [(.int .i64 0)] fun s15 ct15 => C.any fun _ =>
      cond (decide (s15 < 8)) (
        C.draw <|
        C.ix (some (Addr.mk b8 0 none)) 8 1 s15 fun p47 =>
        C.ld (.int .u32) 1 p47 fun v48 =>
        C.ix (some (Addr.mk b5 0 none)) 8 1 (Int.tmod (IntKind.wrap .i64 (s15 + (IntKind.wrap .i64 (3 * s14)))) 8) fun p54 =>
        C.ld (.int .u32) 1 p54 fun v55 =>
        C.draw <|
        C.callQ n_spec_l01Turn [(.int .u32 (IntKind.wrap .u32 ((IntKind.wrap .u32 (v48 + v55)) + (IntKind.wrap .u32 (2654435769 * (IntKind.wrap .u32 ((IntKind.wrap .i64 ((IntKind.wrap .i64 ((IntKind.wrap .i64 (8 * s14)) + s15)) + 1))))))))), (.int .u64 7)] [(.int .u32)] fun r66 =>
        C.ix (some (Addr.mk b8 0 none)) 8 1 (Int.tmod (IntKind.wrap .i64 (s15 + 1)) 8) fun p70 =>
        C.ld (.int .u32) 1 p70 fun v71 =>
        C.ix (some (Addr.mk b8 0 none)) 8 1 (Int.tmod (IntKind.wrap .i64 (s15 + 5)) 8) fun p78 =>
        C.ld (.int .u32) 1 p78 fun v79 =>
        C.call n_spec_l01Turn [(.int .u32 v79), (.int .u64 13)] [(.int .u32)] fun r80 =>
        C.ix (some (Addr.mk b8 0 none)) 8 1 s15 fun p82 =>
        C.st 1 p82 (.int .u32 (IntKind.wrap .u32 ((bitsI .xor .u32 r66 v71) + r80))) <|
        ct15 [(.int .i64 (IntKind.wrap .i64 (s15 + 1)))]
      ) (
        ct14 [(.int .i64 (IntKind.wrap .i64 (s14 + 1)))]
      )
    ) (
      C.loop (TL [(.int .i64)]) (embL [(.int .i64)]) [(.int .i64 0)] fun s27 ct27 => C.any fun _ =>
      cond (decide (s27 < 8)) (
        C.draw <|
        C.ix (some (Addr.mk b8 0 none)) 8 1 s27 fun p88 =>
        C.ld (.int .u32) 1 p88 fun v89 =>
        C.ix (some (Addr.mk b2 0 none)) 8 1 s27 fun p91 =>
        C.ld (.int .u32) 1 p91 fun v92 =>
        C.ix (some (Addr.mk b8 0 none)) 8 1 s27 fun p94 =>
        C.st 1 p94 (.int .u32 (bitsI .xor .u32 v89 v92)) <|
        ct27 [(.int .i64 (IntKind.wrap .i64 (s27 + 1)))]
      ) (
        C.ld .agg 8 (Addr.mk b8 0 none) fun v95 =>
        C.st 8 (Addr.mk b4 0 none) (.agg v95) <|
        C.ld .agg 8 (Addr.mk b4 0 none) fun z34 =>
        C.ret (.agg z34)
      )
    )
  )
theorem spec_l01Mix_eq (C : Comb) (x0 : Array Value) (x1 : Array Value) : fT C Try.prog { loop := [(3, [(6, (.int .i64))]), (6, [(7, (.int .i64))]), (11, [(9, (.int .i64))]), (14, [(10, (.int .i64))]), (20, [(13, (.int .i64))])], join := [], anyOrder := [8, 22], pure := [] } n_spec_l01Mix [(.agg x0), (.agg x1)] = spec_l01Mix C x0 x1 := by kernel_rfl
theorem spec_l01Mix_calls {R : Value → World → Prop} {w : World} (x0 : Array Value) (x1 : Array Value) (h : (spec_l01Mix (real Try.prog R) x0 x1 : World → Prop) w) :
    Calls Try.prog n_spec_l01Mix [(.agg x0), (.agg x1)].toArray w fun e w' => ∃ v, e = .returned v ∧ R v w' := fT_sound mixed { loop := [(3, [(6, (.int .i64))]), (6, [(7, (.int .i64))]), (11, [(9, (.int .i64))]), (14, [(10, (.int .i64))]), (20, [(13, (.int .i64))])], join := [], anyOrder := [8, 22], pure := [] } (by rw [spec_l01Mix_eq]; exact h)

/-- spec.l01Block (79) -/
def spec_l01Block (C : Comb) (x0 : Sl) (x1 : Int) : C.St :=
  C.new ty_arr32_uint8 (.agg (Array.replicate 32 (.int .u8 0))) fun b4 =>
  C.new ty_arr32_uint8 (.agg (Array.replicate 32 (.int .u8 0))) fun b5 =>
  C.st 32 (Addr.mk b5 0 none) (.agg (Array.replicate 32 (.int .u8 0))) <|
  C.loop (TL [(.int .i64)]) (embL [(.int .i64)]) [(.int .i64 0)] fun s3 ct3 => C.any fun _ =>
  cond (decide (s3 < 32)) (
    C.ix x0.a x0.n 1 (IntKind.wrap .i64 (x1 + s3)) fun p17 =>
    C.ld (.int .u8) 1 p17 fun v18 =>
    C.ix (some (Addr.mk b5 0 none)) 32 1 s3 fun p19 =>
    C.st 1 p19 (.int .u8 v18) <|
    ct3 [(.int .i64 (IntKind.wrap .i64 (s3 + 1)))]
  ) (
    C.ld .agg 32 (Addr.mk b5 0 none) fun v20 =>
    C.st 32 (Addr.mk b4 0 none) (.agg v20) <|
    C.ld .agg 32 (Addr.mk b4 0 none) fun z8 =>
    C.ret (.agg z8)
  )
theorem spec_l01Block_eq (C : Comb) (x0 : Sl) (x1 : Int) : fT C Try.prog { loop := [(3, [(6, (.int .i64))])], join := [], anyOrder := [], pure := [] } n_spec_l01Block [(.slice x0.a x0.n x0.c), (.int .i64 x1)] = spec_l01Block C x0 x1 := by kernel_rfl
theorem spec_l01Block_calls {R : Value → World → Prop} {w : World} (x0 : Sl) (x1 : Int) (h : (spec_l01Block (real Try.prog R) x0 x1 : World → Prop) w) :
    Calls Try.prog n_spec_l01Block [(.slice x0.a x0.n x0.c), (.int .i64 x1)].toArray w fun e w' => ∃ v, e = .returned v ∧ R v w' := fT_sound mixed { loop := [(3, [(6, (.int .i64))])], join := [], anyOrder := [], pure := [] } (by rw [spec_l01Block_eq]; exact h)

/-- impl.appendLittle (80) -/
def impl_appendLittle (C : Comb) (x0 : Sl) (x1 : Int) (x2 : Int) : C.St :=
  C.loop (TL [.slice, (.int .i64)]) (embL [.slice, (.int .i64)]) [(.slice x0.a x0.n x0.c), (.int .i64 0)] fun s1 ct1 => C.any fun _ =>
  cond (decide (s1.2 < x2)) (
    C.pur (eqB .shr ty_uint64 (.tmp 13) (.tmp 15) (.int .u64 x1) (.int .i64 (IntKind.wrap .i64 (8 * s1.2)))) (.int .u64) fun y16 =>
    C.sem (Instr.buildSlice ty_sl_uint8 1 #[(0, (.int .u8 (IntKind.wrap .u8 (y16))))]) .slice fun y18 =>
    C.sem (Builtin.append_ #[ty_sl_uint8, ty_sl_uint8] ty_sl_uint8 #[(.slice s1.1.a s1.1.n s1.1.c), (.slice y18.a y18.n y18.c)]) .slice fun y19 =>
    ct1 [(.slice y19.a y19.n y19.c), (.int .i64 (IntKind.wrap .i64 (s1.2 + 1)))]
  ) (
    C.ret (.slice s1.1.a s1.1.n s1.1.c)
  )
theorem impl_appendLittle_eq (C : Comb) (x0 : Sl) (x1 : Int) (x2 : Int) : fT C Try.prog { loop := [(2, [(0, .slice), (9, (.int .i64))])], join := [], anyOrder := [], pure := [] } n_impl_appendLittle [(.slice x0.a x0.n x0.c), (.int .u64 x1), (.int .i64 x2)] = impl_appendLittle C x0 x1 x2 := by kernel_rfl
theorem impl_appendLittle_calls {R : Value → World → Prop} {w : World} (x0 : Sl) (x1 : Int) (x2 : Int) (h : (impl_appendLittle (real Try.prog R) x0 x1 x2 : World → Prop) w) :
    Calls Try.prog n_impl_appendLittle [(.slice x0.a x0.n x0.c), (.int .u64 x1), (.int .i64 x2)].toArray w fun e w' => ∃ v, e = .returned v ∧ R v w' := fT_sound mixed { loop := [(2, [(0, .slice), (9, (.int .i64))])], join := [], anyOrder := [], pure := [] } (by rw [impl_appendLittle_eq]; exact h)

/-- impl.MixBlock (81) -/
def impl_MixBlock (C : Comb) (x0 : Array Value) (x1 : Array Value) : C.St :=
  C.new ty_arr8_uint32 (.agg x0) fun b2 =>
  C.new ty_arr32_uint8 (.agg x1) fun b3 =>
  C.new ty_arr8_uint32 (.agg (Array.replicate 8 (.int .u32 0))) fun b4 =>
  C.new ty_arr8_uint32 (.agg (Array.replicate 8 (.int .u32 0))) fun b5 =>
  C.st 8 (Addr.mk b5 0 none) (.agg (Array.replicate 8 (.int .u32 0))) <|
  C.loop (TL [(.int .i64)]) (embL [(.int .i64)]) [(.int .i64 0)] fun s5 ct5 => C.any fun _ =>
  cond (decide (s5 < 8)) (
    C.sl (some (Addr.mk b3 0 none)) 32 32 1 (some (IntKind.wrap .i64 (4 * s5))) (some (IntKind.wrap .i64 ((IntKind.wrap .i64 (4 * s5)) + 4))) none fun y23 =>
    C.call n_impl_littleNumber [(.slice y23.a y23.n y23.c)] [(.int .u64)] fun r24 =>
    C.ix (some (Addr.mk b5 0 none)) 8 1 s5 fun p26 =>
    C.st 1 p26 (.int .u32 (IntKind.wrap .u32 (r24))) <|
    ct5 [(.int .i64 (IntKind.wrap .i64 (s5 + 1)))]
  ) (
    C.ld .agg 8 (Addr.mk b2 0 none) fun v28 =>
    C.new ty_arr8_uint32 (.agg (Array.replicate 8 (.int .u32 0))) fun b7 =>
    C.st 8 (Addr.mk b7 0 none) (.agg v28) <|
    C.loop (TL [(.int .i64)]) (embL [(.int .i64)]) [(.int .i64 0)] fun s11 ct11 => C.any fun _ =>
    cond (decide (s11 < 12)) (
      C.loop (TL [(.int .i64)]) (embL [(.int .i64)]) [(.int .i64 0)] fun s12 ct12 => C.any fun _ =>
      cond (decide (s12 < 8)) (
        C.draw <|
        C.ix (some (Addr.mk b7 0 none)) 8 1 s12 fun p36 =>
        C.ld (.int .u32) 1 p36 fun v37 =>
        C.ix (some (Addr.mk b5 0 none)) 8 1 (Int.tmod (IntKind.wrap .i64 (s12 + (IntKind.wrap .i64 (3 * s11)))) 8) fun p43 =>
        C.ld (.int .u32) 1 p43 fun v44 =>
        C.draw <|
        C.callQ n_math_bits_RotateLeft32 [(.int .u32 (IntKind.wrap .u32 ((IntKind.wrap .u32 (v37 + v44)) + (IntKind.wrap .u32 (2654435769 * (IntKind.wrap .u32 ((IntKind.wrap .i64 ((IntKind.wrap .i64 ((IntKind.wrap .i64 (8 * s11)) + s12)) + 1))))))))), (.int .i64 7)] [(.int .u32)] fun r55 =>
        C.ix (some (Addr.mk b7 0 none)) 8 1 (Int.tmod (IntKind.wrap .i64 (s12 + 1)) 8) fun p59 =>
        C.ld (.int .u32) 1 p59 fun v60 =>
        C.ix (some (Addr.mk b7 0 none)) 8 1 (Int.tmod (IntKind.wrap .i64 (s12 + 5)) 8) fun p67 =>
        C.ld (.int .u32) 1 p67 fun v68 =>
        C.call n_math_bits_RotateLeft32 [(.int .u32 v68), (.int .i64 13)] [(.int .u32)] fun r69 =>
        C.ix (some (Addr.mk b7 0 none)) 8 1 s12 fun p71 =>
        C.st 1 p71 (.int .u32 (IntKind.wrap .u32 ((bitsI .xor .u32 r55 v60) + r69))) <|
        ct12 [(.int .i64 (IntKind.wrap .i64 (s12 + 1)))]
      ) (
        ct11 [(.int .i64 (IntKind.wrap .i64 (s11 + 1)))]
      )
    ) (
      C.loop (TL [(.int .i64)]) (embL [(.int .i64)]) [(.int .i64 0)] fun s24 ct24 => C.any fun _ =>
      cond (decide (s24 < 8)) (
        C.draw <|
        C.ix (some (Addr.mk b7 0 none)) 8 1 s24 fun p78 =>
        C.ld (.int .u32) 1 p78 fun v79 =>
        C.ix (some (Addr.mk b2 0 none)) 8 1 s24 fun p81 =>
        C.ld (.int .u32) 1 p81 fun v82 =>
        C.ix (some (Addr.mk b7 0 none)) 8 1 s24 fun p84 =>
        C.st 1 p84 (.int .u32 (bitsI .xor .u32 v79 v82)) <|
        ct24 [(.int .i64 (IntKind.wrap .i64 (s24 + 1)))]
      ) (
        C.ld .agg 8 (Addr.mk b7 0 none) fun v86 =>
        C.st 8 (Addr.mk b4 0 none) (.agg v86) <|
        C.ld .agg 8 (Addr.mk b4 0 none) fun z31 =>
        C.ret (.agg z31)
      )
    )
  )
theorem impl_MixBlock_eq (C : Comb) (x0 : Array Value) (x1 : Array Value) : fT C Try.prog { loop := [(3, [(14, (.int .i64))]), (9, [(29, (.int .i64))]), (12, [(32, (.int .i64))]), (20, [(74, (.int .i64))])], join := [], anyOrder := [22], pure := [] } n_impl_MixBlock [(.agg x0), (.agg x1)] = impl_MixBlock C x0 x1 := by kernel_rfl
theorem impl_MixBlock_calls {R : Value → World → Prop} {w : World} (x0 : Array Value) (x1 : Array Value) (h : (impl_MixBlock (real Try.prog R) x0 x1 : World → Prop) w) :
    Calls Try.prog n_impl_MixBlock [(.agg x0), (.agg x1)].toArray w fun e w' => ∃ v, e = .returned v ∧ R v w' := fT_sound mixed { loop := [(3, [(14, (.int .i64))]), (9, [(29, (.int .i64))]), (12, [(32, (.int .i64))]), (20, [(74, (.int .i64))])], join := [], anyOrder := [22], pure := [] } (by rw [impl_MixBlock_eq]; exact h)

/-- spec.l01Turn (82) -/
def spec_l01Turn (C : Comb) (x0 : Int) (x1 : Int) : C.St :=
  C.pur (eqB .shl ty_uint32 (.tmp 5) (.tmp 6) (.int .u32 x0) (.int .u64 x1)) (.int .u32) fun y7 =>
  C.pur (eqB .shr ty_uint32 (.tmp 8) (.tmp 10) (.int .u32 x0) (.int .u64 (IntKind.wrap .u64 (32 - x1)))) (.int .u32) fun y11 =>
  C.ret (.int .u32 (bitsI .or .u32 y7 y11))
theorem spec_l01Turn_eq (C : Comb) (x0 : Int) (x1 : Int) : fT C Try.prog { loop := [], join := [], anyOrder := [], pure := [] } n_spec_l01Turn [(.int .u32 x0), (.int .u64 x1)] = spec_l01Turn C x0 x1 := by kernel_rfl
theorem spec_l01Turn_calls {R : Value → World → Prop} {w : World} (x0 : Int) (x1 : Int) (h : (spec_l01Turn (real Try.prog R) x0 x1 : World → Prop) w) :
    Calls Try.prog n_spec_l01Turn [(.int .u32 x0), (.int .u64 x1)].toArray w fun e w' => ∃ v, e = .returned v ∧ R v w' := fT_sound mixed { loop := [], join := [], anyOrder := [], pure := [] } (by rw [spec_l01Turn_eq]; exact h)

/-- impl.littleNumber (83) -/
def impl_littleNumber (C : Comb) (x0 : Sl) : C.St :=
  C.loop (TL [(.int .u64), (.int .i64)]) (embL [(.int .u64), (.int .i64)]) [(.int .u64 0), (.int .i64 0)] fun s1 ct1 => C.any fun _ =>
  cond (decide (s1.2 < (x0.n : Int))) (
    C.ix x0.a x0.n 1 s1.2 fun p11 =>
    C.ld (.int .u8) 1 p11 fun v12 =>
    C.pur (eqB .shl ty_uint64 (.tmp 15) (.tmp 17) (.int .u64 (IntKind.wrap .u64 (v12))) (.int .i64 (IntKind.wrap .i64 (8 * s1.2)))) (.int .u64) fun y18 =>
    ct1 [(.int .u64 (bitsI .or .u64 s1.1 y18)), (.int .i64 (IntKind.wrap .i64 (s1.2 + 1)))]
  ) (
    C.ret (.int .u64 s1.1)
  )
theorem impl_littleNumber_eq (C : Comb) (x0 : Sl) : fT C Try.prog { loop := [(3, [(3, (.int .u64)), (8, (.int .i64))])], join := [], anyOrder := [], pure := [] } n_impl_littleNumber [(.slice x0.a x0.n x0.c)] = impl_littleNumber C x0 := by kernel_rfl
theorem impl_littleNumber_calls {R : Value → World → Prop} {w : World} (x0 : Sl) (h : (impl_littleNumber (real Try.prog R) x0 : World → Prop) w) :
    Calls Try.prog n_impl_littleNumber [(.slice x0.a x0.n x0.c)].toArray w fun e w' => ∃ v, e = .returned v ∧ R v w' := fT_sound mixed { loop := [(3, [(3, (.int .u64)), (8, (.int .i64))])], join := [], anyOrder := [], pure := [] } (by rw [impl_littleNumber_eq]; exact h)

/-- math/bits.RotateLeft32 (84) -/
def math_bits_RotateLeft32 (C : Comb) (x0 : Int) (x1 : Int) : C.St :=
  C.pur (eqB .shl ty_uint32 (.tmp 9) (.tmp 10) (.int .u32 x0) (.int .u64 (bitsI .and .u64 (IntKind.wrap .u64 (x1)) 31))) (.int .u32) fun y11 =>
  C.pur (eqB .shr ty_uint32 (.tmp 12) (.tmp 14) (.int .u32 x0) (.int .u64 (IntKind.wrap .u64 (32 - (bitsI .and .u64 (IntKind.wrap .u64 (x1)) 31))))) (.int .u32) fun y15 =>
  C.ret (.int .u32 (bitsI .or .u32 y11 y15))
theorem math_bits_RotateLeft32_eq (C : Comb) (x0 : Int) (x1 : Int) : fT C Try.prog { loop := [], join := [], anyOrder := [], pure := [] } n_math_bits_RotateLeft32 [(.int .u32 x0), (.int .i64 x1)] = math_bits_RotateLeft32 C x0 x1 := by kernel_rfl
theorem math_bits_RotateLeft32_calls {R : Value → World → Prop} {w : World} (x0 : Int) (x1 : Int) (h : (math_bits_RotateLeft32 (real Try.prog R) x0 x1 : World → Prop) w) :
    Calls Try.prog n_math_bits_RotateLeft32 [(.int .u32 x0), (.int .i64 x1)].toArray w fun e w' => ∃ v, e = .returned v ∧ R v w' := fT_sound mixed { loop := [], join := [], anyOrder := [], pure := [] } (by rw [math_bits_RotateLeft32_eq]; exact h)
end Go.Proofs.Ytjmncaoddfggnaa
