/- Printed by a program of this claim's author: each Go function as a Lean function over abstract combinators, and the equation that says that T makes it of the loaded code. -/
import Derived.Test.YtcebkinkbelcnaaSx2
import Derived.Test.YtcebkinkbelcnaaProg
namespace Go.Proofs.Ytcebkinkbelcnaa
open Go.Sx
theorem mixed : Try.prog.follows .mixedOrders = true := by kernel_rfl

abbrev n_laws_FnExactIsPartOf : Nat := 3
abbrev n_laws_FnExactGetBlob : Nat := 4
abbrev n_laws_FnExactMinusStores : Nat := 5
abbrev n_laws_FnExactDropBlob : Nat := 6
abbrev n_laws_szStore : Nat := 7
abbrev n_spec_IsPartOf : Nat := 8
abbrev n_laws_toStore : Nat := 9
abbrev n_impl_IsPartOf : Nat := 10
abbrev n_laws_eqStore : Nat := 11
abbrev n_spec_GetBlob : Nat := 12
abbrev n_laws_toKey : Nat := 13
abbrev n_impl_GetBlob : Nat := 14
abbrev n_laws_eqBlob : Nat := 15
abbrev n_laws_markStore : Nat := 16
abbrev n_laws_markBlob : Nat := 17
abbrev n_laws_heldBlob : Nat := 18
abbrev n_spec_MinusStores : Nat := 19
abbrev n_impl_MinusStores : Nat := 20
abbrev n_laws_heldStore : Nat := 21
abbrev n_spec_DropBlob : Nat := 22
abbrev n_impl_DropBlob : Nat := 23
abbrev n_laws_szBlobS : Nat := 24
abbrev n_spec_l05Open : Nat := 25
abbrev n_ptr_spec_l05Store_find : Nat := 26
abbrev n_spec_l05SameBlob : Nat := 27
abbrev n_laws_toBlobS : Nat := 28
abbrev n_impl_newShop : Nat := 29
abbrev n_ptr_impl_shop_get : Nat := 30
abbrev n_impl_SameBlob : Nat := 31
abbrev n_laws_eqBlobS : Nat := 32
abbrev n_spec_l05Copy : Nat := 33
abbrev n_impl_Blob_copied : Nat := 34
abbrev n_laws_eqByteS : Nat := 35
abbrev n_laws_markBlobS : Nat := 36
abbrev n_laws_markByteS : Nat := 37
abbrev n_laws_heldByteS : Nat := 38
abbrev n_ptr_spec_l05Store_keep : Nat := 39
abbrev n_ptr_spec_l05Store_store : Nat := 40
abbrev n_ptr_impl_shop_kept : Nat := 41
abbrev n_impl_MinusStores_1 : Nat := 42
abbrev n_ptr_impl_shop_has : Nat := 43
abbrev n_laws_heldBlobS : Nat := 44
abbrev n_impl_DropBlob_1 : Nat := 45
abbrev n_laws_szBlob : Nat := 46
abbrev n_spec_l05Blob : Nat := 47
abbrev n_spec_l05Key : Nat := 48
abbrev n_spec_l01Compare : Nat := 49
abbrev n_spec_l01Bytes : Nat := 50
abbrev n_laws_toBlob : Nat := 51
abbrev n_impl_ValidStore : Nat := 52
abbrev n_impl_Store_keys : Nat := 53
abbrev n_slices_Clone_sl_impl_Blob_impl_Blob : Nat := 54
abbrev n_ptr_impl_shop_find : Nat := 55
abbrev n_bytes_Equal : Nat := 56
abbrev n_slices_Clone_sl_byte_byte : Nat := 57
abbrev n_ptr_impl_shop_store : Nat := 58
abbrev n_laws_szByteS : Nat := 59
abbrev n_spec_l01Hash : Nat := 60
abbrev n_laws_toByteS : Nat := 61
abbrev n_slices_ContainsFunc_sl_impl_Blob_impl_Blob : Nat := 62
abbrev n_impl_ValidStore_1 : Nat := 63
abbrev n_impl_ValidBlob : Nat := 64
abbrev n_impl_sorted : Nat := 65
abbrev n_slices_IsSortedFunc_sl_impl_Key_impl_Key : Nat := 66
abbrev n_impl_compareKeys : Nat := 67
abbrev n_impl_Blob_key : Nat := 68
abbrev n_slices_BinarySearchFunc_sl_impl_Key_impl_Key_impl_Key : Nat := 69
abbrev n_spec_l01End : Nat := 70
abbrev n_spec_l01Start : Nat := 71
abbrev n_slices_IndexFunc_sl_impl_Blob_impl_Blob : Nat := 72
abbrev n_slices_Clone_sl_impl_Key_impl_Key : Nat := 73
abbrev n_slices_SortFunc_sl_impl_Key_impl_Key : Nat := 74
abbrev n_slices_Compact_sl_impl_Key_impl_Key : Nat := 75
abbrev n_slices_Compare_sl_byte_byte : Nat := 76
abbrev n_impl_hash : Nat := 77
abbrev n_spec_l01Padded : Nat := 78
abbrev n_spec_l01Mix : Nat := 79
abbrev n_spec_l01Block : Nat := 80
abbrev n_slices_pdqsortCmpFunc_impl_Key : Nat := 81
abbrev n_math_bits_Len : Nat := 82
abbrev n_cmp_Compare_byte : Nat := 83
abbrev n_impl_blocks : Nat := 84
abbrev n_slices_Concat_sl_byte_byte : Nat := 85
abbrev n_impl_padding : Nat := 86
abbrev n_impl_size_byte : Nat := 87
abbrev n_impl_keyOf : Nat := 88
abbrev n_impl_mixed : Nat := 89
abbrev n_impl_StartState : Nat := 90
abbrev n_spec_l01Turn : Nat := 91
abbrev n_slices_insertionSortCmpFunc_impl_Key : Nat := 92
abbrev n_slices_heapSortCmpFunc_impl_Key : Nat := 93
abbrev n_slices_breakPatternsCmpFunc_impl_Key : Nat := 94
abbrev n_slices_choosePivotCmpFunc_impl_Key : Nat := 95
abbrev n_slices_reverseRangeCmpFunc_impl_Key : Nat := 96
abbrev n_slices_partialInsertionSortCmpFunc_impl_Key : Nat := 97
abbrev n_slices_partitionEqualCmpFunc_impl_Key : Nat := 98
abbrev n_slices_partitionCmpFunc_impl_Key : Nat := 99
abbrev n_math_bits_Len32 : Nat := 100
abbrev n_math_bits_Len64 : Nat := 101
abbrev n_cmp_isNaN_byte : Nat := 102
abbrev n_slices_Grow_sl_byte_byte : Nat := 103
abbrev n_impl_appendLittle : Nat := 104
abbrev n_impl_MixBlock : Nat := 105
abbrev n_slices_siftDownCmpFunc_impl_Key : Nat := 106
abbrev n_slices_nextPowerOfTwo : Nat := 107
abbrev n_ptr_slices_xorshift_Next : Nat := 108
abbrev n_slices_medianAdjacentCmpFunc_impl_Key : Nat := 109
abbrev n_slices_medianCmpFunc_impl_Key : Nat := 110
abbrev n_impl_littleNumber : Nat := 111
abbrev n_math_bits_RotateLeft32 : Nat := 112
abbrev n_slices_order2CmpFunc_impl_Key : Nat := 113
abbrev n_runtime_boundsError_Error : Nat := 114
abbrev n_runtime_boundsError_RuntimeError : Nat := 115
abbrev n_runtime_errorString_Error : Nat := 116
abbrev n_runtime_errorString_RuntimeError : Nat := 117
abbrev n_runtime_plainError_Error : Nat := 118
abbrev n_runtime_plainError_RuntimeError : Nat := 119
abbrev n_runtime_errorAddressString_Error : Nat := 120
abbrev n_runtime_errorAddressString_RuntimeError : Nat := 121
abbrev n_ptr_runtime_TypeAssertionError_Error : Nat := 122
abbrev n_ptr_runtime_TypeAssertionError_RuntimeError : Nat := 123
abbrev n_ptr_runtime_PanicNilError_Error : Nat := 124
abbrev n_ptr_runtime_PanicNilError_RuntimeError : Nat := 125
abbrev n_ptr_internal_abi_Type_Align : Nat := 126
abbrev n_internal_runtime_maps_unhashableTypeError_Error : Nat := 127
abbrev n_internal_runtime_maps_unhashableTypeError_RuntimeError : Nat := 128
abbrev n_ptr_spec_l05Store_counts : Nat := 129
abbrev n_ptr_impl_shop_counts : Nat := 130
abbrev n_internal_abi_Kind_String : Nat := 131
abbrev ty_x : Nat := 0
abbrev ty_func : Nat := 1
abbrev ty_int64 : Nat := 2
abbrev ty_int : Nat := 3
abbrev ty_bool : Nat := 4
abbrev ty_uint8 : Nat := 5
abbrev ty_internal_abi_BoundsErrorCode : Nat := 6
abbrev ty_struct_x_int64_y_int_signed_bool_code_abi_BoundsErrorCode : Nat := 7
abbrev ty_runtime_boundsError : Nat := 8
abbrev ty_string : Nat := 9
abbrev ty_runtime_errorString : Nat := 10
abbrev ty_runtime_plainError : Nat := 11
abbrev ty_uintptr : Nat := 12
abbrev ty_struct_msg_string_addr_uintptr : Nat := 13
abbrev ty_runtime_errorAddressString : Nat := 14
abbrev ty_ptr_runtime_TypeAssertionError : Nat := 15
abbrev ty_ptr_runtime_PanicNilError : Nat := 16
abbrev ty_ptr_abi_Type : Nat := 17
abbrev ty_struct_typ_ptr_abi_Type : Nat := 18
abbrev ty_internal_runtime_maps_unhashableTypeError : Nat := 19
abbrev ty_interface : Nat := 20
abbrev ty_int32 : Nat := 21
abbrev ty_sl_laws_Blob : Nat := 22
abbrev ty_struct_Blobs_sl_laws_Blob : Nat := 23
abbrev ty_laws_Store : Nat := 24
abbrev ty_func_laws_Store_int_int : Nat := 25
abbrev ty_bool_int64 : Nat := 26
abbrev ty_func_impl_Store_impl_Store_bool_int64 : Nat := 27
abbrev ty_sl_impl_Blob : Nat := 28
abbrev ty_struct_Blobs_sl_impl_Blob : Nat := 29
abbrev ty_impl_Store : Nat := 30
abbrev ty_func_laws_Store_impl_Store : Nat := 31
abbrev ty_func_impl_Store_impl_Store_bool : Nat := 32
abbrev ty_func_laws_Store_laws_Store_bool : Nat := 33
abbrev ty_arr32_uint8 : Nat := 34
abbrev ty_sl_uint8 : Nat := 35
abbrev ty_struct_Tag_uint8_Data_sl_uint8 : Nat := 36
abbrev ty_impl_Blob : Nat := 37
abbrev ty_impl_Blob_int64 : Nat := 38
abbrev ty_func_impl_Store_impl_Key_impl_Blob_int64 : Nat := 39
abbrev ty_impl_Key : Nat := 40
abbrev ty_func_arr32_uint8_impl_Key : Nat := 41
abbrev ty_func_impl_Blob_impl_Blob_bool : Nat := 42
abbrev ty_func_impl_Store_int_int : Nat := 43
abbrev ty_func_impl_Blob_int_int : Nat := 44
abbrev ty_func_laws_Store_arr32_uint8_bool : Nat := 45
abbrev ty_impl_Store_int64 : Nat := 46
abbrev ty_func_impl_Store_impl_Store_impl_Store_int64 : Nat := 47
abbrev ty_func_impl_Store_impl_Key_impl_Store_int64 : Nat := 48
abbrev ty_func_sl_laws_Blob_int_int : Nat := 49
abbrev ty_ptr_spec_l05Store : Nat := 50
abbrev ty_ptr_spec_l05Store_bool : Nat := 51
abbrev ty_func_ptr_impl_Store_ptr_spec_l05Store_bool : Nat := 52
abbrev ty_ptr_impl_Store : Nat := 53
abbrev ty_sl_impl_Key : Nat := 54
abbrev ty_struct_blobs_sl_impl_Blob_keys_sl_impl_Key : Nat := 55
abbrev ty_spec_l05Store : Nat := 56
abbrev ty_func_impl_Key_int : Nat := 57
abbrev ty_func_ptr_impl_Blob_ptr_impl_Blob_bool : Nat := 58
abbrev ty_ptr_impl_Blob : Nat := 59
abbrev ty_func_sl_laws_Blob_sl_impl_Blob : Nat := 60
abbrev ty_ptr_impl_shop : Nat := 61
abbrev ty_ptr_impl_shop_bool : Nat := 62
abbrev ty_func_impl_Store_ptr_impl_shop_bool : Nat := 63
abbrev ty_struct_keys_sl_impl_Key_blobs_sl_impl_Blob : Nat := 64
abbrev ty_impl_shop : Nat := 65
abbrev ty_impl_Blob_bool : Nat := 66
abbrev ty_func_impl_Key_impl_Blob_bool : Nat := 67
abbrev ty_func_sl_impl_Blob_sl_impl_Blob_bool : Nat := 68
abbrev ty_func_impl_Blob_impl_Blob : Nat := 69
abbrev ty_func_impl_Blob : Nat := 70
abbrev ty_func_sl_uint8_sl_uint8_bool : Nat := 71
abbrev ty_func_sl_impl_Blob_int_int : Nat := 72
abbrev ty_func_sl_uint8_int_int : Nat := 73
abbrev ty_sl_bool : Nat := 74
abbrev ty_func_sl_bool_ptr_spec_l05Store : Nat := 75
abbrev ty_func_impl_Store : Nat := 76
abbrev ty_func_func_impl_Key_bool_impl_Store : Nat := 77
abbrev ty_func_impl_Key_bool : Nat := 78
abbrev ty_func_laws_Blob_int_int : Nat := 79
abbrev ty_laws_Blob : Nat := 80
abbrev ty_func_ptr_impl_Blob_bool : Nat := 81
abbrev ty_func_ptr_impl_Blob_impl_Key : Nat := 82
abbrev ty_func_impl_Key_impl_Key_int64 : Nat := 83
abbrev ty_func_laws_Blob_impl_Blob : Nat := 84
abbrev ty_func_impl_Store_bool : Nat := 85
abbrev ty_func_sl_impl_Key : Nat := 86
abbrev ty_func_sl_impl_Blob_sl_impl_Blob : Nat := 87
abbrev ty_int_bool : Nat := 88
abbrev ty_func_impl_Key_int_bool : Nat := 89
abbrev ty_func_sl_uint8_sl_uint8 : Nat := 90
abbrev ty_func_uint8_sl_uint8_impl_Key : Nat := 91
abbrev ty_func_sl_impl_Blob_func_impl_Blob_bool_bool : Nat := 92
abbrev ty_func_impl_Blob_bool : Nat := 93
abbrev ty_func_sl_impl_Key_sl_impl_Key : Nat := 94
abbrev ty_func_sl_impl_Key_func_impl_Key_impl_Key_int_bool : Nat := 95
abbrev ty_func_impl_Key_impl_Key_int : Nat := 96
abbrev ty_func_impl_Key : Nat := 97
abbrev ty_func_sl_impl_Key_impl_Key_func_impl_Key_impl_Key_int_int_bool : Nat := 98
abbrev ty_func_arr8_uint32_sl_uint8_int64_impl_Key : Nat := 99
abbrev ty_uint32 : Nat := 100
abbrev ty_arr8_uint32 : Nat := 101
abbrev ty_func_uint8_arr8_uint32 : Nat := 102
abbrev ty_func_sl_impl_Blob_func_impl_Blob_bool_int : Nat := 103
abbrev ty_func_sl_impl_Key_func_impl_Key_impl_Key_int : Nat := 104
abbrev ty_func_sl_uint8_sl_uint8_int : Nat := 105
abbrev ty_uint : Nat := 106
abbrev ty_func_sl_uint8_int64_sl_uint8 : Nat := 107
abbrev ty_func_arr8_uint32_arr32_uint8_arr8_uint32 : Nat := 108
abbrev ty_func_sl_uint8_int_arr32_uint8 : Nat := 109
abbrev ty_func_sl_impl_Key_int_int_int_func_impl_Key_impl_Key_int : Nat := 110
abbrev ty_func_uint_int : Nat := 111
abbrev ty_func_uint8_uint8_int : Nat := 112
abbrev ty_sl_arr32_uint8 : Nat := 113
abbrev ty_sl_arr32_uint8_sl_uint8 : Nat := 114
abbrev ty_func_sl_uint8_sl_arr32_uint8_sl_uint8 : Nat := 115
abbrev ty_func_sl_uint8_sl_uint8_116 : Nat := 116
abbrev ty_func_int64_sl_uint8 : Nat := 117
abbrev ty_func_sl_uint8_int64 : Nat := 118
abbrev ty_func_arr8_uint32_impl_Key : Nat := 119
abbrev ty_func_arr8_uint32_sl_arr32_uint8_arr8_uint32 : Nat := 120
abbrev ty_func_uint32_uint_uint32 : Nat := 121
abbrev ty_func_sl_impl_Key_int_int_func_impl_Key_impl_Key_int : Nat := 122
abbrev ty_slices_sortedHint : Nat := 123
abbrev ty_int_slices_sortedHint : Nat := 124
abbrev ty_func_sl_impl_Key_int_int_func_impl_Key_impl_Key_int_int_slices_sortedHint : Nat := 125
abbrev ty_func_sl_impl_Key_int_int_func_impl_Key_impl_Key_int_bool : Nat := 126
abbrev ty_func_sl_impl_Key_int_int_int_func_impl_Key_impl_Key_int_int : Nat := 127
abbrev ty_func_sl_impl_Key_int_int_int_func_impl_Key_impl_Key_int_int_bool : Nat := 128
abbrev ty_func_uint32_int : Nat := 129
abbrev ty_func_uint64_int : Nat := 130
abbrev ty_uint64 : Nat := 131
abbrev ty_func_uint8_bool : Nat := 132
abbrev ty_sl_sl_uint8 : Nat := 133
abbrev ty_func_sl_uint8_int_sl_uint8 : Nat := 134
abbrev ty_func_sl_uint8_uint64_int_sl_uint8 : Nat := 135
abbrev ty_slices_xorshift : Nat := 136
abbrev ty_func_int_uint : Nat := 137
abbrev ty_func_uint64 : Nat := 138
abbrev ty_func_sl_impl_Key_int_ptr_int_func_impl_Key_impl_Key_int_int : Nat := 139
abbrev ty_ptr_int : Nat := 140
abbrev ty_func_sl_impl_Key_int_int_int_ptr_int_func_impl_Key_impl_Key_int_int : Nat := 141
abbrev ty_func_sl_uint8_uint64 : Nat := 142
abbrev ty_func_uint32_int_uint32 : Nat := 143
abbrev ty_ptr_slices_xorshift : Nat := 144
abbrev ty_int_int : Nat := 145
abbrev ty_func_sl_impl_Key_int_int_ptr_int_func_impl_Key_impl_Key_int_int_int : Nat := 146
abbrev ty_func_string : Nat := 147
abbrev ty_struct_interface_ptr_abi_Type_concrete_ptr_abi_Type_asserted_ptr_abi_Type_missingMethod_string : Nat := 148
abbrev ty_runtime_TypeAssertionError : Nat := 149
abbrev ty_arr0_ptr_runtime_PanicNilError : Nat := 150
abbrev ty_struct_arr0_ptr_runtime_PanicNilError : Nat := 151
abbrev ty_runtime_PanicNilError : Nat := 152
abbrev ty_func_int : Nat := 153
abbrev ty_internal_abi_TFlag : Nat := 154
abbrev ty_internal_abi_Kind : Nat := 155
abbrev ty_func_unsafe_Pointer_unsafe_Pointer_bool : Nat := 156
abbrev ty_ptr_uint8 : Nat := 157
abbrev ty_internal_abi_NameOff : Nat := 158
abbrev ty_internal_abi_TypeOff : Nat := 159
abbrev ty_struct_Size_uintptr_PtrBytes_uintptr_Hash_uint32_TFlag_abi_TFlag_Align_uint8_FieldAlign_uint8_Kind_abi_Kind_Equal_func_unsafe_Pointer_unsafe_Pointer_bool_GCData_ptr_uint8_Str_abi_NameOff_PtrToThis_abi_TypeOff : Nat := 160
abbrev ty_internal_abi_Type : Nat := 161
abbrev ty_func_sl_int64 : Nat := 162
abbrev ty_unsafe_Pointer : Nat := 163
abbrev ty_sl_int64 : Nat := 164

/-- laws.FnExactIsPartOf (3) -/
def laws_FnExactIsPartOf (C : Comb) (x0 : Array Value) (x1 : Array Value) : C.St :=
  C.new ty_laws_Store (.agg x0) fun b2 =>
  C.new ty_laws_Store (.agg x1) fun b3 =>
  C.ld .agg 1 (Addr.mk b2 0 none) fun v12 =>
  C.call n_laws_szStore [(.agg v12), (.int .i64 1048576)] [(.int .i64)] fun r14 =>
  cond (decide (r14 < 0)) (
    C.ret (.bool true)
  ) (
    C.ld .agg 1 (Addr.mk b3 0 none) fun v17 =>
    C.call n_laws_szStore [(.agg v17), (.int .i64 r14)] [(.int .i64)] fun r19 =>
    cond (decide (r19 < 0)) (
      C.ret (.bool true)
    ) (
      C.join (TL [.bool, (.int .i64)]) (embL [.bool, (.int .i64)]) (fun s12 => C.any fun _ =>
          C.ld .agg 1 (Addr.mk b2 0 none) fun v30 =>
          C.call n_laws_toStore [(.agg v30)] [.agg] fun r31 =>
          C.new ty_impl_Store (.agg (#[(.slice none 0 0)])) fun b8 =>
          C.st 1 (Addr.mk b8 0 none) (.agg r31) <|
          C.ld .agg 1 (Addr.mk b3 0 none) fun v32 =>
          C.call n_laws_toStore [(.agg v32)] [.agg] fun r33 =>
          C.new ty_impl_Store (.agg (#[(.slice none 0 0)])) fun b9 =>
          C.st 1 (Addr.mk b9 0 none) (.agg r33) <|
          C.ld .agg 1 (Addr.mk b8 0 none) fun v35 =>
          C.ld .agg 1 (Addr.mk b9 0 none) fun v36 =>
          C.call n_impl_IsPartOf [(.agg v35), (.agg v36)] [.bool, (.int .i64)] fun r37 =>
          C.join (TL []) (embL []) (fun s23 => C.any fun _ =>
              C.join (TL []) (embL []) (fun s28 => C.any fun _ =>
                  C.draw <|
                  C.ld .agg 1 (Addr.mk b9 0 none) fun v53 =>
                  C.ld .agg 1 (Addr.mk b3 0 none) fun v54 =>
                  C.call n_laws_toStore [(.agg v54)] [.agg] fun r55 =>
                  C.chk [⟨0, 1, (Addr.mk b9 0 none), .agg, v53⟩] <|
                  C.call n_laws_eqStore [(.agg v53), (.agg r55)] [.bool] fun r56 =>
                  cond (!r56) (
                    C.ret (.bool false)
                  ) (
                    C.ret (.bool true)
                  )
                ) fun jt =>
              C.draw <|
              C.ld .agg 1 (Addr.mk b8 0 none) fun v48 =>
              C.ld .agg 1 (Addr.mk b2 0 none) fun v49 =>
              C.call n_laws_toStore [(.agg v49)] [.agg] fun r50 =>
              C.chk [⟨0, 1, (Addr.mk b8 0 none), .agg, v48⟩] <|
              C.call n_laws_eqStore [(.agg v48), (.agg r50)] [.bool] fun r51 =>
              cond (!r51) (
                C.ret (.bool false)
              ) (
                jt []
              )
            ) fun jt =>
          C.pur (eqB .neq ty_bool (.tmp 40) (.tmp 41) (.bool r37.1) (.bool s12.1)) .bool fun y42 =>
          cond y42 (
            C.ret (.bool false)
          ) (
            cond (r37.2 != s12.2) (
              C.ret (.bool false)
            ) (
              jt []
            )
          )
        ) fun jt =>
      C.draw <|
      C.ld .agg 1 (Addr.mk b2 0 none) fun v23 =>
      C.ld .agg 1 (Addr.mk b3 0 none) fun v25 =>
      C.call n_laws_toStore [(.agg v23)] [.agg] fun r24 =>
      C.chk [⟨2, 1, (Addr.mk b3 0 none), .agg, v25⟩] <|
      C.call n_laws_toStore [(.agg v25)] [.agg] fun r26 =>
      C.call n_spec_IsPartOf [(.agg r24), (.agg r26)] [.bool, (.int .i64)] fun r27 =>
      jt [(.bool r27.1), (.int .i64 r27.2)]
    )
  )
theorem laws_FnExactIsPartOf_eq (C : Comb) (x0 : Array Value) (x1 : Array Value) : fT C Try.prog { loop := [], join := [(25, [(6, .bool), (7, (.int .i64))]), (141, []), (156, [])], anyOrder := [8, 14, 16], pure := [] } n_laws_FnExactIsPartOf [(.agg x0), (.agg x1)] = laws_FnExactIsPartOf C x0 x1 := by kernel_rfl
theorem laws_FnExactIsPartOf_calls {R : Value → World → Prop} {w : World} (x0 : Array Value) (x1 : Array Value) (h : (laws_FnExactIsPartOf (real Try.prog R) x0 x1 : World → Prop) w) :
    Calls Try.prog n_laws_FnExactIsPartOf [(.agg x0), (.agg x1)].toArray w fun e w' => ∃ v, e = .returned v ∧ R v w' := fT_sound mixed { loop := [], join := [(25, [(6, .bool), (7, (.int .i64))]), (141, []), (156, [])], anyOrder := [8, 14, 16], pure := [] } (by rw [laws_FnExactIsPartOf_eq]; exact h)

/-- laws.FnExactGetBlob (4) -/
def laws_FnExactGetBlob (C : Comb) (x0 : Array Value) (x1 : Array Value) : C.St :=
  C.new ty_laws_Store (.agg x0) fun b2 =>
  C.new ty_arr32_uint8 (.agg x1) fun b3 =>
  C.ld .agg 1 (Addr.mk b2 0 none) fun v16 =>
  C.call n_laws_szStore [(.agg v16), (.int .i64 1048576)] [(.int .i64)] fun r18 =>
  cond (decide (r18 < 0)) (
    C.ret (.bool true)
  ) (
    C.join (TL [.ptr, (.int .i64)]) (embL [.ptr, (.int .i64)]) (fun s20 => C.any fun _ =>
        C.ld .agg 1 (Addr.mk b2 0 none) fun v29 =>
        C.call n_laws_toStore [(.agg v29)] [.agg] fun r30 =>
        C.new ty_impl_Store (.agg (#[(.slice none 0 0)])) fun b8 =>
        C.st 1 (Addr.mk b8 0 none) (.agg r30) <|
        C.join (TL [.ptr, (.int .i64)]) (embL [.ptr, (.int .i64)]) (fun s34 => C.any fun _ =>
            C.join (TL []) (embL []) (fun s38 => C.any fun _ =>
                C.join (TL []) (embL []) (fun s43 => C.any fun _ =>
                    C.ld .agg 1 (Addr.mk b8 0 none) fun v52 =>
                    C.call n_laws_markStore [(.agg v52), (.int .i64 1)] [(.int .i64)] fun r54 =>
                    C.join (TL []) (embL []) (fun s49 => C.any fun _ =>
                        C.ld .agg 2 s34.1 fun v68 =>
                        C.call n_laws_markBlob [(.agg v68), (.int .i64 1)] [(.int .i64)] fun r70 =>
                        C.ld .agg 2 s34.1 fun v71 =>
                        C.call n_laws_heldBlob [(.agg v71), (.int .i64 1)] [(.int .i64)] fun r73 =>
                        cond (decide (r73 < 0)) (
                          C.ret (.bool false)
                        ) (
                          cond (r73 != r70) (
                            C.ret (.bool false)
                          ) (
                            C.join (TL [.ptr, (.int .i64)]) (embL [.ptr, (.int .i64)]) (fun s69 => C.any fun _ =>
                                C.join (TL []) (embL []) (fun s73 => C.any fun _ =>
                                    C.ld .agg 2 s34.1 fun v96 =>
                                    C.call n_laws_heldBlob [(.agg v96), (.int .i64 1)] [(.int .i64)] fun r98 =>
                                    cond (decide (r98 < 0)) (
                                      C.ret (.bool false)
                                    ) (
                                      cond (r98 != r70) (
                                        C.ret (.bool false)
                                      ) (
                                        C.ret (.bool true)
                                      )
                                    )
                                  ) fun jt =>
                                C.ld .agg 2 s69.1 fun v87 =>
                                C.ld .agg 2 s20.1 fun v88 =>
                                C.call n_laws_eqBlob [(.agg v87), (.agg v88)] [.bool] fun r89 =>
                                cond (!r89) (
                                  C.ret (.bool false)
                                ) (
                                  cond (s69.2 != s20.2) (
                                    C.ret (.bool false)
                                  ) (
                                    jt []
                                  )
                                )
                              ) fun jt =>
                            C.draw <|
                            C.ld .agg 1 (Addr.mk b2 0 none) fun v80 =>
                            C.ld .agg 32 (Addr.mk b3 0 none) fun v82 =>
                            C.all [
                              (C.call n_laws_toStore [(.agg v80)] [.agg] fun r81 =>
                               C.chk [⟨2, 32, (Addr.mk b3 0 none), .agg, v82⟩] <|
                               C.all [
                                 (C.call n_laws_toKey [(.agg v82)] [.agg] fun r83 =>
                                  C.all [
                                    (C.call n_impl_GetBlob [(.agg r81), (.agg r83)] [.agg, (.int .i64)] fun r84 =>
                                     C.new ty_impl_Blob (.agg (#[(.int .u8 0), (.slice none 0 0)])) fun b14 =>
                                     C.st 2 (Addr.mk b14 0 none) (.agg r84.1) <|
                                     jt [(.pointer (some (Addr.mk b14 0 none))), (.int .i64 r84.2)]),
                                    (C.new ty_impl_Blob (.agg (#[(.int .u8 0), (.slice none 0 0)])) fun b14 =>
                                     C.call n_impl_GetBlob [(.agg r81), (.agg r83)] [.agg, (.int .i64)] fun r84 =>
                                     C.st 2 (Addr.mk b14 0 none) (.agg r84.1) <|
                                     jt [(.pointer (some (Addr.mk b14 0 none))), (.int .i64 r84.2)])]),
                                 (C.new ty_impl_Blob (.agg (#[(.int .u8 0), (.slice none 0 0)])) fun b14 =>
                                  C.chk [⟨2, 32, (Addr.mk b3 0 none), .agg, v82⟩] <|
                                  C.call n_laws_toKey [(.agg v82)] [.agg] fun r83 =>
                                  C.call n_impl_GetBlob [(.agg r81), (.agg r83)] [.agg, (.int .i64)] fun r84 =>
                                  C.st 2 (Addr.mk b14 0 none) (.agg r84.1) <|
                                  jt [(.pointer (some (Addr.mk b14 0 none))), (.int .i64 r84.2)])]),
                              (C.new ty_impl_Blob (.agg (#[(.int .u8 0), (.slice none 0 0)])) fun b14 =>
                               C.chk [⟨2, 32, (Addr.mk b3 0 none), .agg, v82⟩, ⟨0, 1, (Addr.mk b2 0 none), .agg, v80⟩] <|
                               C.call n_laws_toStore [(.agg v80)] [.agg] fun r81 =>
                               C.chk [⟨2, 32, (Addr.mk b3 0 none), .agg, v82⟩] <|
                               C.call n_laws_toKey [(.agg v82)] [.agg] fun r83 =>
                               C.call n_impl_GetBlob [(.agg r81), (.agg r83)] [.agg, (.int .i64)] fun r84 =>
                               C.st 2 (Addr.mk b14 0 none) (.agg r84.1) <|
                               jt [(.pointer (some (Addr.mk b14 0 none))), (.int .i64 r84.2)])]
                          )
                        )
                      ) fun jt =>
                    cond (decide (r54 < 0)) (
                      C.ret (.bool false)
                    ) (
                      C.ld .agg 2 s34.1 fun v58 =>
                      C.ld .agg 2 s20.1 fun v59 =>
                      C.call n_laws_eqBlob [(.agg v58), (.agg v59)] [.bool] fun r60 =>
                      cond (!r60) (
                        C.ret (.bool false)
                      ) (
                        cond (s34.2 != s20.2) (
                          C.ret (.bool false)
                        ) (
                          jt []
                        )
                      )
                    )
                  ) fun jt =>
                C.draw <|
                C.ld .agg 1 (Addr.mk b8 0 none) fun v47 =>
                C.ld .agg 1 (Addr.mk b2 0 none) fun v48 =>
                C.call n_laws_toStore [(.agg v48)] [.agg] fun r49 =>
                C.chk [⟨0, 1, (Addr.mk b8 0 none), .agg, v47⟩] <|
                C.call n_laws_eqStore [(.agg v47), (.agg r49)] [.bool] fun r50 =>
                cond (!r50) (
                  C.ret (.bool false)
                ) (
                  jt []
                )
              ) fun jt =>
            C.ld .agg 2 s34.1 fun v38 =>
            C.ld .agg 2 s20.1 fun v39 =>
            C.call n_laws_eqBlob [(.agg v38), (.agg v39)] [.bool] fun r40 =>
            cond (!r40) (
              C.ret (.bool false)
            ) (
              cond (s34.2 != s20.2) (
                C.ret (.bool false)
              ) (
                jt []
              )
            )
          ) fun jt =>
        C.draw <|
        C.ld .agg 1 (Addr.mk b8 0 none) fun v32 =>
        C.ld .agg 32 (Addr.mk b3 0 none) fun v33 =>
        C.all [
          (C.call n_laws_toKey [(.agg v33)] [.agg] fun r34 =>
           C.chk [⟨0, 1, (Addr.mk b8 0 none), .agg, v32⟩] <|
           C.all [
             (C.call n_impl_GetBlob [(.agg v32), (.agg r34)] [.agg, (.int .i64)] fun r35 =>
              C.new ty_impl_Blob (.agg (#[(.int .u8 0), (.slice none 0 0)])) fun b9 =>
              C.st 2 (Addr.mk b9 0 none) (.agg r35.1) <|
              jt [(.pointer (some (Addr.mk b9 0 none))), (.int .i64 r35.2)]),
             (C.new ty_impl_Blob (.agg (#[(.int .u8 0), (.slice none 0 0)])) fun b9 =>
              C.chk [⟨0, 1, (Addr.mk b8 0 none), .agg, v32⟩] <|
              C.call n_impl_GetBlob [(.agg v32), (.agg r34)] [.agg, (.int .i64)] fun r35 =>
              C.st 2 (Addr.mk b9 0 none) (.agg r35.1) <|
              jt [(.pointer (some (Addr.mk b9 0 none))), (.int .i64 r35.2)])]),
          (C.new ty_impl_Blob (.agg (#[(.int .u8 0), (.slice none 0 0)])) fun b9 =>
           C.chk [⟨1, 32, (Addr.mk b3 0 none), .agg, v33⟩, ⟨0, 1, (Addr.mk b8 0 none), .agg, v32⟩] <|
           C.call n_laws_toKey [(.agg v33)] [.agg] fun r34 =>
           C.chk [⟨0, 1, (Addr.mk b8 0 none), .agg, v32⟩] <|
           C.call n_impl_GetBlob [(.agg v32), (.agg r34)] [.agg, (.int .i64)] fun r35 =>
           C.st 2 (Addr.mk b9 0 none) (.agg r35.1) <|
           jt [(.pointer (some (Addr.mk b9 0 none))), (.int .i64 r35.2)])]
      ) fun jt =>
    C.draw <|
    C.ld .agg 1 (Addr.mk b2 0 none) fun v22 =>
    C.ld .agg 32 (Addr.mk b3 0 none) fun v24 =>
    C.all [
      (C.call n_laws_toStore [(.agg v22)] [.agg] fun r23 =>
       C.chk [⟨2, 32, (Addr.mk b3 0 none), .agg, v24⟩] <|
       C.all [
         (C.call n_laws_toKey [(.agg v24)] [.agg] fun r25 =>
          C.all [
            (C.call n_spec_GetBlob [(.agg r23), (.agg r25)] [.agg, (.int .i64)] fun r26 =>
             C.new ty_impl_Blob (.agg (#[(.int .u8 0), (.slice none 0 0)])) fun b6 =>
             C.st 2 (Addr.mk b6 0 none) (.agg r26.1) <|
             jt [(.pointer (some (Addr.mk b6 0 none))), (.int .i64 r26.2)]),
            (C.new ty_impl_Blob (.agg (#[(.int .u8 0), (.slice none 0 0)])) fun b6 =>
             C.call n_spec_GetBlob [(.agg r23), (.agg r25)] [.agg, (.int .i64)] fun r26 =>
             C.st 2 (Addr.mk b6 0 none) (.agg r26.1) <|
             jt [(.pointer (some (Addr.mk b6 0 none))), (.int .i64 r26.2)])]),
         (C.new ty_impl_Blob (.agg (#[(.int .u8 0), (.slice none 0 0)])) fun b6 =>
          C.chk [⟨2, 32, (Addr.mk b3 0 none), .agg, v24⟩] <|
          C.call n_laws_toKey [(.agg v24)] [.agg] fun r25 =>
          C.call n_spec_GetBlob [(.agg r23), (.agg r25)] [.agg, (.int .i64)] fun r26 =>
          C.st 2 (Addr.mk b6 0 none) (.agg r26.1) <|
          jt [(.pointer (some (Addr.mk b6 0 none))), (.int .i64 r26.2)])]),
      (C.new ty_impl_Blob (.agg (#[(.int .u8 0), (.slice none 0 0)])) fun b6 =>
       C.chk [⟨2, 32, (Addr.mk b3 0 none), .agg, v24⟩, ⟨0, 1, (Addr.mk b2 0 none), .agg, v22⟩] <|
       C.call n_laws_toStore [(.agg v22)] [.agg] fun r23 =>
       C.chk [⟨2, 32, (Addr.mk b3 0 none), .agg, v24⟩] <|
       C.call n_laws_toKey [(.agg v24)] [.agg] fun r25 =>
       C.call n_spec_GetBlob [(.agg r23), (.agg r25)] [.agg, (.int .i64)] fun r26 =>
       C.st 2 (Addr.mk b6 0 none) (.agg r26.1) <|
       jt [(.pointer (some (Addr.mk b6 0 none))), (.int .i64 r26.2)])]
  )
theorem laws_FnExactGetBlob_eq (C : Comb) (x0 : Array Value) (x1 : Array Value) : fT C Try.prog { loop := [], join := [(16, [(6, .ptr), (7, (.int .i64))]), (22, [(9, .ptr), (10, (.int .i64))]), (138, []), (153, []), (201, []), (73, [(14, .ptr), (15, (.int .i64))]), (285, [])], anyOrder := [5, 7, 10, 24], pure := [] } n_laws_FnExactGetBlob [(.agg x0), (.agg x1)] = laws_FnExactGetBlob C x0 x1 := by kernel_rfl
theorem laws_FnExactGetBlob_calls {R : Value → World → Prop} {w : World} (x0 : Array Value) (x1 : Array Value) (h : (laws_FnExactGetBlob (real Try.prog R) x0 x1 : World → Prop) w) :
    Calls Try.prog n_laws_FnExactGetBlob [(.agg x0), (.agg x1)].toArray w fun e w' => ∃ v, e = .returned v ∧ R v w' := fT_sound mixed { loop := [], join := [(16, [(6, .ptr), (7, (.int .i64))]), (22, [(9, .ptr), (10, (.int .i64))]), (138, []), (153, []), (201, []), (73, [(14, .ptr), (15, (.int .i64))]), (285, [])], anyOrder := [5, 7, 10, 24], pure := [] } (by rw [laws_FnExactGetBlob_eq]; exact h)

/-- laws.FnExactMinusStores (5) -/
def laws_FnExactMinusStores (C : Comb) (x0 : Array Value) (x1 : Array Value) : C.St :=
  C.new ty_laws_Store (.agg x0) fun b2 =>
  C.new ty_laws_Store (.agg x1) fun b3 =>
  C.ld .agg 1 (Addr.mk b2 0 none) fun v17 =>
  C.call n_laws_szStore [(.agg v17), (.int .i64 1048576)] [(.int .i64)] fun r19 =>
  cond (decide (r19 < 0)) (
    C.ret (.bool true)
  ) (
    C.ld .agg 1 (Addr.mk b3 0 none) fun v22 =>
    C.call n_laws_szStore [(.agg v22), (.int .i64 r19)] [(.int .i64)] fun r24 =>
    cond (decide (r24 < 0)) (
      C.ret (.bool true)
    ) (
      C.join (TL [.ptr, (.int .i64)]) (embL [.ptr, (.int .i64)]) (fun s22 => C.any fun _ =>
          C.ld .agg 1 (Addr.mk b2 0 none) fun v35 =>
          C.call n_laws_toStore [(.agg v35)] [.agg] fun r36 =>
          C.new ty_impl_Store (.agg (#[(.slice none 0 0)])) fun b8 =>
          C.st 1 (Addr.mk b8 0 none) (.agg r36) <|
          C.ld .agg 1 (Addr.mk b3 0 none) fun v37 =>
          C.call n_laws_toStore [(.agg v37)] [.agg] fun r38 =>
          C.new ty_impl_Store (.agg (#[(.slice none 0 0)])) fun b9 =>
          C.st 1 (Addr.mk b9 0 none) (.agg r38) <|
          C.ld .agg 1 (Addr.mk b8 0 none) fun v40 =>
          C.ld .agg 1 (Addr.mk b9 0 none) fun v41 =>
          C.call n_impl_MinusStores [(.agg v40), (.agg v41)] [.agg, (.int .i64)] fun r42 =>
          C.new ty_impl_Store (.agg (#[(.slice none 0 0)])) fun b10 =>
          C.st 1 (Addr.mk b10 0 none) (.agg r42.1) <|
          C.join (TL []) (embL []) (fun s36 => C.any fun _ =>
              C.join (TL []) (embL []) (fun s41 => C.any fun _ =>
                  C.join (TL []) (embL []) (fun s46 => C.any fun _ =>
                      C.ld .agg 1 (Addr.mk b8 0 none) fun v64 =>
                      C.call n_laws_markStore [(.agg v64), (.int .i64 1)] [(.int .i64)] fun r66 =>
                      C.ld .agg 1 (Addr.mk b9 0 none) fun v67 =>
                      C.call n_laws_markStore [(.agg v67), (.int .i64 r66)] [(.int .i64)] fun r69 =>
                      C.join (TL []) (embL []) (fun s54 => C.any fun _ =>
                          C.ld .agg 1 (Addr.mk b10 0 none) fun v83 =>
                          C.call n_laws_markStore [(.agg v83), (.int .i64 1)] [(.int .i64)] fun r85 =>
                          C.ld .agg 1 (Addr.mk b10 0 none) fun v86 =>
                          C.call n_laws_heldStore [(.agg v86), (.int .i64 1)] [(.int .i64)] fun r88 =>
                          cond (decide (r88 < 0)) (
                            C.ret (.bool false)
                          ) (
                            cond (r88 != r85) (
                              C.ret (.bool false)
                            ) (
                              C.join (TL [.ptr, (.int .i64)]) (embL [.ptr, (.int .i64)]) (fun s74 => C.any fun _ =>
                                  C.join (TL []) (embL []) (fun s78 => C.any fun _ =>
                                      C.ld .agg 1 (Addr.mk b10 0 none) fun v111 =>
                                      C.call n_laws_heldStore [(.agg v111), (.int .i64 1)] [(.int .i64)] fun r113 =>
                                      cond (decide (r113 < 0)) (
                                        C.ret (.bool false)
                                      ) (
                                        cond (r113 != r85) (
                                          C.ret (.bool false)
                                        ) (
                                          C.ret (.bool true)
                                        )
                                      )
                                    ) fun jt =>
                                  C.ld .agg 1 s74.1 fun v102 =>
                                  C.ld .agg 1 s22.1 fun v103 =>
                                  C.call n_laws_eqStore [(.agg v102), (.agg v103)] [.bool] fun r104 =>
                                  cond (!r104) (
                                    C.ret (.bool false)
                                  ) (
                                    cond (s74.2 != s22.2) (
                                      C.ret (.bool false)
                                    ) (
                                      jt []
                                    )
                                  )
                                ) fun jt =>
                              C.draw <|
                              C.ld .agg 1 (Addr.mk b2 0 none) fun v95 =>
                              C.ld .agg 1 (Addr.mk b3 0 none) fun v97 =>
                              C.all [
                                (C.call n_laws_toStore [(.agg v95)] [.agg] fun r96 =>
                                 C.chk [⟨2, 1, (Addr.mk b3 0 none), .agg, v97⟩] <|
                                 C.all [
                                   (C.call n_laws_toStore [(.agg v97)] [.agg] fun r98 =>
                                    C.all [
                                      (C.call n_impl_MinusStores [(.agg r96), (.agg r98)] [.agg, (.int .i64)] fun r99 =>
                                       C.new ty_impl_Store (.agg (#[(.slice none 0 0)])) fun b15 =>
                                       C.st 1 (Addr.mk b15 0 none) (.agg r99.1) <|
                                       jt [(.pointer (some (Addr.mk b15 0 none))), (.int .i64 r99.2)]),
                                      (C.new ty_impl_Store (.agg (#[(.slice none 0 0)])) fun b15 =>
                                       C.call n_impl_MinusStores [(.agg r96), (.agg r98)] [.agg, (.int .i64)] fun r99 =>
                                       C.st 1 (Addr.mk b15 0 none) (.agg r99.1) <|
                                       jt [(.pointer (some (Addr.mk b15 0 none))), (.int .i64 r99.2)])]),
                                   (C.new ty_impl_Store (.agg (#[(.slice none 0 0)])) fun b15 =>
                                    C.chk [⟨2, 1, (Addr.mk b3 0 none), .agg, v97⟩] <|
                                    C.call n_laws_toStore [(.agg v97)] [.agg] fun r98 =>
                                    C.call n_impl_MinusStores [(.agg r96), (.agg r98)] [.agg, (.int .i64)] fun r99 =>
                                    C.st 1 (Addr.mk b15 0 none) (.agg r99.1) <|
                                    jt [(.pointer (some (Addr.mk b15 0 none))), (.int .i64 r99.2)])]),
                                (C.new ty_impl_Store (.agg (#[(.slice none 0 0)])) fun b15 =>
                                 C.chk [⟨2, 1, (Addr.mk b3 0 none), .agg, v97⟩, ⟨0, 1, (Addr.mk b2 0 none), .agg, v95⟩] <|
                                 C.call n_laws_toStore [(.agg v95)] [.agg] fun r96 =>
                                 C.chk [⟨2, 1, (Addr.mk b3 0 none), .agg, v97⟩] <|
                                 C.call n_laws_toStore [(.agg v97)] [.agg] fun r98 =>
                                 C.call n_impl_MinusStores [(.agg r96), (.agg r98)] [.agg, (.int .i64)] fun r99 =>
                                 C.st 1 (Addr.mk b15 0 none) (.agg r99.1) <|
                                 jt [(.pointer (some (Addr.mk b15 0 none))), (.int .i64 r99.2)])]
                            )
                          )
                        ) fun jt =>
                      cond (decide (r69 < 0)) (
                        C.ret (.bool false)
                      ) (
                        C.ld .agg 1 (Addr.mk b10 0 none) fun v73 =>
                        C.ld .agg 1 s22.1 fun v74 =>
                        C.call n_laws_eqStore [(.agg v73), (.agg v74)] [.bool] fun r75 =>
                        cond (!r75) (
                          C.ret (.bool false)
                        ) (
                          cond (r42.2 != s22.2) (
                            C.ret (.bool false)
                          ) (
                            jt []
                          )
                        )
                      )
                    ) fun jt =>
                  C.draw <|
                  C.ld .agg 1 (Addr.mk b9 0 none) fun v59 =>
                  C.ld .agg 1 (Addr.mk b3 0 none) fun v60 =>
                  C.call n_laws_toStore [(.agg v60)] [.agg] fun r61 =>
                  C.chk [⟨0, 1, (Addr.mk b9 0 none), .agg, v59⟩] <|
                  C.call n_laws_eqStore [(.agg v59), (.agg r61)] [.bool] fun r62 =>
                  cond (!r62) (
                    C.ret (.bool false)
                  ) (
                    jt []
                  )
                ) fun jt =>
              C.draw <|
              C.ld .agg 1 (Addr.mk b8 0 none) fun v54 =>
              C.ld .agg 1 (Addr.mk b2 0 none) fun v55 =>
              C.call n_laws_toStore [(.agg v55)] [.agg] fun r56 =>
              C.chk [⟨0, 1, (Addr.mk b8 0 none), .agg, v54⟩] <|
              C.call n_laws_eqStore [(.agg v54), (.agg r56)] [.bool] fun r57 =>
              cond (!r57) (
                C.ret (.bool false)
              ) (
                jt []
              )
            ) fun jt =>
          C.ld .agg 1 (Addr.mk b10 0 none) fun v45 =>
          C.ld .agg 1 s22.1 fun v46 =>
          C.call n_laws_eqStore [(.agg v45), (.agg v46)] [.bool] fun r47 =>
          cond (!r47) (
            C.ret (.bool false)
          ) (
            cond (r42.2 != s22.2) (
              C.ret (.bool false)
            ) (
              jt []
            )
          )
        ) fun jt =>
      C.draw <|
      C.ld .agg 1 (Addr.mk b2 0 none) fun v28 =>
      C.ld .agg 1 (Addr.mk b3 0 none) fun v30 =>
      C.all [
        (C.call n_laws_toStore [(.agg v28)] [.agg] fun r29 =>
         C.chk [⟨2, 1, (Addr.mk b3 0 none), .agg, v30⟩] <|
         C.all [
           (C.call n_laws_toStore [(.agg v30)] [.agg] fun r31 =>
            C.all [
              (C.call n_spec_MinusStores [(.agg r29), (.agg r31)] [.agg, (.int .i64)] fun r32 =>
               C.new ty_impl_Store (.agg (#[(.slice none 0 0)])) fun b6 =>
               C.st 1 (Addr.mk b6 0 none) (.agg r32.1) <|
               jt [(.pointer (some (Addr.mk b6 0 none))), (.int .i64 r32.2)]),
              (C.new ty_impl_Store (.agg (#[(.slice none 0 0)])) fun b6 =>
               C.call n_spec_MinusStores [(.agg r29), (.agg r31)] [.agg, (.int .i64)] fun r32 =>
               C.st 1 (Addr.mk b6 0 none) (.agg r32.1) <|
               jt [(.pointer (some (Addr.mk b6 0 none))), (.int .i64 r32.2)])]),
           (C.new ty_impl_Store (.agg (#[(.slice none 0 0)])) fun b6 =>
            C.chk [⟨2, 1, (Addr.mk b3 0 none), .agg, v30⟩] <|
            C.call n_laws_toStore [(.agg v30)] [.agg] fun r31 =>
            C.call n_spec_MinusStores [(.agg r29), (.agg r31)] [.agg, (.int .i64)] fun r32 =>
            C.st 1 (Addr.mk b6 0 none) (.agg r32.1) <|
            jt [(.pointer (some (Addr.mk b6 0 none))), (.int .i64 r32.2)])]),
        (C.new ty_impl_Store (.agg (#[(.slice none 0 0)])) fun b6 =>
         C.chk [⟨2, 1, (Addr.mk b3 0 none), .agg, v30⟩, ⟨0, 1, (Addr.mk b2 0 none), .agg, v28⟩] <|
         C.call n_laws_toStore [(.agg v28)] [.agg] fun r29 =>
         C.chk [⟨2, 1, (Addr.mk b3 0 none), .agg, v30⟩] <|
         C.call n_laws_toStore [(.agg v30)] [.agg] fun r31 =>
         C.call n_spec_MinusStores [(.agg r29), (.agg r31)] [.agg, (.int .i64)] fun r32 =>
         C.st 1 (Addr.mk b6 0 none) (.agg r32.1) <|
         jt [(.pointer (some (Addr.mk b6 0 none))), (.int .i64 r32.2)])]
    )
  )
theorem laws_FnExactMinusStores_eq (C : Comb) (x0 : Array Value) (x1 : Array Value) : fT C Try.prog { loop := [], join := [(25, [(6, .ptr), (7, (.int .i64))]), (159, []), (174, []), (189, []), (246, []), (94, [(15, .ptr), (16, (.int .i64))]), (330, [])], anyOrder := [8, 14, 16, 31], pure := [] } n_laws_FnExactMinusStores [(.agg x0), (.agg x1)] = laws_FnExactMinusStores C x0 x1 := by kernel_rfl
theorem laws_FnExactMinusStores_calls {R : Value → World → Prop} {w : World} (x0 : Array Value) (x1 : Array Value) (h : (laws_FnExactMinusStores (real Try.prog R) x0 x1 : World → Prop) w) :
    Calls Try.prog n_laws_FnExactMinusStores [(.agg x0), (.agg x1)].toArray w fun e w' => ∃ v, e = .returned v ∧ R v w' := fT_sound mixed { loop := [], join := [(25, [(6, .ptr), (7, (.int .i64))]), (159, []), (174, []), (189, []), (246, []), (94, [(15, .ptr), (16, (.int .i64))]), (330, [])], anyOrder := [8, 14, 16, 31], pure := [] } (by rw [laws_FnExactMinusStores_eq]; exact h)

/-- laws.FnExactDropBlob (6) -/
def laws_FnExactDropBlob (C : Comb) (x0 : Array Value) (x1 : Array Value) : C.St :=
  C.new ty_laws_Store (.agg x0) fun b2 =>
  C.new ty_arr32_uint8 (.agg x1) fun b3 =>
  C.ld .agg 1 (Addr.mk b2 0 none) fun v16 =>
  C.call n_laws_szStore [(.agg v16), (.int .i64 1048576)] [(.int .i64)] fun r18 =>
  cond (decide (r18 < 0)) (
    C.ret (.bool true)
  ) (
    C.join (TL [.ptr, (.int .i64)]) (embL [.ptr, (.int .i64)]) (fun s20 => C.any fun _ =>
        C.ld .agg 1 (Addr.mk b2 0 none) fun v29 =>
        C.call n_laws_toStore [(.agg v29)] [.agg] fun r30 =>
        C.new ty_impl_Store (.agg (#[(.slice none 0 0)])) fun b8 =>
        C.st 1 (Addr.mk b8 0 none) (.agg r30) <|
        C.join (TL [.ptr, (.int .i64)]) (embL [.ptr, (.int .i64)]) (fun s34 => C.any fun _ =>
            C.join (TL []) (embL []) (fun s38 => C.any fun _ =>
                C.join (TL []) (embL []) (fun s43 => C.any fun _ =>
                    C.ld .agg 1 (Addr.mk b8 0 none) fun v52 =>
                    C.call n_laws_markStore [(.agg v52), (.int .i64 1)] [(.int .i64)] fun r54 =>
                    C.join (TL []) (embL []) (fun s49 => C.any fun _ =>
                        C.ld .agg 1 s34.1 fun v68 =>
                        C.call n_laws_markStore [(.agg v68), (.int .i64 1)] [(.int .i64)] fun r70 =>
                        C.ld .agg 1 s34.1 fun v71 =>
                        C.call n_laws_heldStore [(.agg v71), (.int .i64 1)] [(.int .i64)] fun r73 =>
                        cond (decide (r73 < 0)) (
                          C.ret (.bool false)
                        ) (
                          cond (r73 != r70) (
                            C.ret (.bool false)
                          ) (
                            C.join (TL [.ptr, (.int .i64)]) (embL [.ptr, (.int .i64)]) (fun s69 => C.any fun _ =>
                                C.join (TL []) (embL []) (fun s73 => C.any fun _ =>
                                    C.ld .agg 1 s34.1 fun v96 =>
                                    C.call n_laws_heldStore [(.agg v96), (.int .i64 1)] [(.int .i64)] fun r98 =>
                                    cond (decide (r98 < 0)) (
                                      C.ret (.bool false)
                                    ) (
                                      cond (r98 != r70) (
                                        C.ret (.bool false)
                                      ) (
                                        C.ret (.bool true)
                                      )
                                    )
                                  ) fun jt =>
                                C.ld .agg 1 s69.1 fun v87 =>
                                C.ld .agg 1 s20.1 fun v88 =>
                                C.call n_laws_eqStore [(.agg v87), (.agg v88)] [.bool] fun r89 =>
                                cond (!r89) (
                                  C.ret (.bool false)
                                ) (
                                  cond (s69.2 != s20.2) (
                                    C.ret (.bool false)
                                  ) (
                                    jt []
                                  )
                                )
                              ) fun jt =>
                            C.draw <|
                            C.ld .agg 1 (Addr.mk b2 0 none) fun v80 =>
                            C.ld .agg 32 (Addr.mk b3 0 none) fun v82 =>
                            C.all [
                              (C.call n_laws_toStore [(.agg v80)] [.agg] fun r81 =>
                               C.chk [⟨2, 32, (Addr.mk b3 0 none), .agg, v82⟩] <|
                               C.all [
                                 (C.call n_laws_toKey [(.agg v82)] [.agg] fun r83 =>
                                  C.all [
                                    (C.call n_impl_DropBlob [(.agg r81), (.agg r83)] [.agg, (.int .i64)] fun r84 =>
                                     C.new ty_impl_Store (.agg (#[(.slice none 0 0)])) fun b14 =>
                                     C.st 1 (Addr.mk b14 0 none) (.agg r84.1) <|
                                     jt [(.pointer (some (Addr.mk b14 0 none))), (.int .i64 r84.2)]),
                                    (C.new ty_impl_Store (.agg (#[(.slice none 0 0)])) fun b14 =>
                                     C.call n_impl_DropBlob [(.agg r81), (.agg r83)] [.agg, (.int .i64)] fun r84 =>
                                     C.st 1 (Addr.mk b14 0 none) (.agg r84.1) <|
                                     jt [(.pointer (some (Addr.mk b14 0 none))), (.int .i64 r84.2)])]),
                                 (C.new ty_impl_Store (.agg (#[(.slice none 0 0)])) fun b14 =>
                                  C.chk [⟨2, 32, (Addr.mk b3 0 none), .agg, v82⟩] <|
                                  C.call n_laws_toKey [(.agg v82)] [.agg] fun r83 =>
                                  C.call n_impl_DropBlob [(.agg r81), (.agg r83)] [.agg, (.int .i64)] fun r84 =>
                                  C.st 1 (Addr.mk b14 0 none) (.agg r84.1) <|
                                  jt [(.pointer (some (Addr.mk b14 0 none))), (.int .i64 r84.2)])]),
                              (C.new ty_impl_Store (.agg (#[(.slice none 0 0)])) fun b14 =>
                               C.chk [⟨2, 32, (Addr.mk b3 0 none), .agg, v82⟩, ⟨0, 1, (Addr.mk b2 0 none), .agg, v80⟩] <|
                               C.call n_laws_toStore [(.agg v80)] [.agg] fun r81 =>
                               C.chk [⟨2, 32, (Addr.mk b3 0 none), .agg, v82⟩] <|
                               C.call n_laws_toKey [(.agg v82)] [.agg] fun r83 =>
                               C.call n_impl_DropBlob [(.agg r81), (.agg r83)] [.agg, (.int .i64)] fun r84 =>
                               C.st 1 (Addr.mk b14 0 none) (.agg r84.1) <|
                               jt [(.pointer (some (Addr.mk b14 0 none))), (.int .i64 r84.2)])]
                          )
                        )
                      ) fun jt =>
                    cond (decide (r54 < 0)) (
                      C.ret (.bool false)
                    ) (
                      C.ld .agg 1 s34.1 fun v58 =>
                      C.ld .agg 1 s20.1 fun v59 =>
                      C.call n_laws_eqStore [(.agg v58), (.agg v59)] [.bool] fun r60 =>
                      cond (!r60) (
                        C.ret (.bool false)
                      ) (
                        cond (s34.2 != s20.2) (
                          C.ret (.bool false)
                        ) (
                          jt []
                        )
                      )
                    )
                  ) fun jt =>
                C.draw <|
                C.ld .agg 1 (Addr.mk b8 0 none) fun v47 =>
                C.ld .agg 1 (Addr.mk b2 0 none) fun v48 =>
                C.call n_laws_toStore [(.agg v48)] [.agg] fun r49 =>
                C.chk [⟨0, 1, (Addr.mk b8 0 none), .agg, v47⟩] <|
                C.call n_laws_eqStore [(.agg v47), (.agg r49)] [.bool] fun r50 =>
                cond (!r50) (
                  C.ret (.bool false)
                ) (
                  jt []
                )
              ) fun jt =>
            C.ld .agg 1 s34.1 fun v38 =>
            C.ld .agg 1 s20.1 fun v39 =>
            C.call n_laws_eqStore [(.agg v38), (.agg v39)] [.bool] fun r40 =>
            cond (!r40) (
              C.ret (.bool false)
            ) (
              cond (s34.2 != s20.2) (
                C.ret (.bool false)
              ) (
                jt []
              )
            )
          ) fun jt =>
        C.draw <|
        C.ld .agg 1 (Addr.mk b8 0 none) fun v32 =>
        C.ld .agg 32 (Addr.mk b3 0 none) fun v33 =>
        C.all [
          (C.call n_laws_toKey [(.agg v33)] [.agg] fun r34 =>
           C.chk [⟨0, 1, (Addr.mk b8 0 none), .agg, v32⟩] <|
           C.all [
             (C.call n_impl_DropBlob [(.agg v32), (.agg r34)] [.agg, (.int .i64)] fun r35 =>
              C.new ty_impl_Store (.agg (#[(.slice none 0 0)])) fun b9 =>
              C.st 1 (Addr.mk b9 0 none) (.agg r35.1) <|
              jt [(.pointer (some (Addr.mk b9 0 none))), (.int .i64 r35.2)]),
             (C.new ty_impl_Store (.agg (#[(.slice none 0 0)])) fun b9 =>
              C.chk [⟨0, 1, (Addr.mk b8 0 none), .agg, v32⟩] <|
              C.call n_impl_DropBlob [(.agg v32), (.agg r34)] [.agg, (.int .i64)] fun r35 =>
              C.st 1 (Addr.mk b9 0 none) (.agg r35.1) <|
              jt [(.pointer (some (Addr.mk b9 0 none))), (.int .i64 r35.2)])]),
          (C.new ty_impl_Store (.agg (#[(.slice none 0 0)])) fun b9 =>
           C.chk [⟨1, 32, (Addr.mk b3 0 none), .agg, v33⟩, ⟨0, 1, (Addr.mk b8 0 none), .agg, v32⟩] <|
           C.call n_laws_toKey [(.agg v33)] [.agg] fun r34 =>
           C.chk [⟨0, 1, (Addr.mk b8 0 none), .agg, v32⟩] <|
           C.call n_impl_DropBlob [(.agg v32), (.agg r34)] [.agg, (.int .i64)] fun r35 =>
           C.st 1 (Addr.mk b9 0 none) (.agg r35.1) <|
           jt [(.pointer (some (Addr.mk b9 0 none))), (.int .i64 r35.2)])]
      ) fun jt =>
    C.draw <|
    C.ld .agg 1 (Addr.mk b2 0 none) fun v22 =>
    C.ld .agg 32 (Addr.mk b3 0 none) fun v24 =>
    C.all [
      (C.call n_laws_toStore [(.agg v22)] [.agg] fun r23 =>
       C.chk [⟨2, 32, (Addr.mk b3 0 none), .agg, v24⟩] <|
       C.all [
         (C.call n_laws_toKey [(.agg v24)] [.agg] fun r25 =>
          C.all [
            (C.call n_spec_DropBlob [(.agg r23), (.agg r25)] [.agg, (.int .i64)] fun r26 =>
             C.new ty_impl_Store (.agg (#[(.slice none 0 0)])) fun b6 =>
             C.st 1 (Addr.mk b6 0 none) (.agg r26.1) <|
             jt [(.pointer (some (Addr.mk b6 0 none))), (.int .i64 r26.2)]),
            (C.new ty_impl_Store (.agg (#[(.slice none 0 0)])) fun b6 =>
             C.call n_spec_DropBlob [(.agg r23), (.agg r25)] [.agg, (.int .i64)] fun r26 =>
             C.st 1 (Addr.mk b6 0 none) (.agg r26.1) <|
             jt [(.pointer (some (Addr.mk b6 0 none))), (.int .i64 r26.2)])]),
         (C.new ty_impl_Store (.agg (#[(.slice none 0 0)])) fun b6 =>
          C.chk [⟨2, 32, (Addr.mk b3 0 none), .agg, v24⟩] <|
          C.call n_laws_toKey [(.agg v24)] [.agg] fun r25 =>
          C.call n_spec_DropBlob [(.agg r23), (.agg r25)] [.agg, (.int .i64)] fun r26 =>
          C.st 1 (Addr.mk b6 0 none) (.agg r26.1) <|
          jt [(.pointer (some (Addr.mk b6 0 none))), (.int .i64 r26.2)])]),
      (C.new ty_impl_Store (.agg (#[(.slice none 0 0)])) fun b6 =>
       C.chk [⟨2, 32, (Addr.mk b3 0 none), .agg, v24⟩, ⟨0, 1, (Addr.mk b2 0 none), .agg, v22⟩] <|
       C.call n_laws_toStore [(.agg v22)] [.agg] fun r23 =>
       C.chk [⟨2, 32, (Addr.mk b3 0 none), .agg, v24⟩] <|
       C.call n_laws_toKey [(.agg v24)] [.agg] fun r25 =>
       C.call n_spec_DropBlob [(.agg r23), (.agg r25)] [.agg, (.int .i64)] fun r26 =>
       C.st 1 (Addr.mk b6 0 none) (.agg r26.1) <|
       jt [(.pointer (some (Addr.mk b6 0 none))), (.int .i64 r26.2)])]
  )
theorem laws_FnExactDropBlob_eq (C : Comb) (x0 : Array Value) (x1 : Array Value) : fT C Try.prog { loop := [], join := [(16, [(6, .ptr), (7, (.int .i64))]), (22, [(9, .ptr), (10, (.int .i64))]), (138, []), (153, []), (201, []), (73, [(14, .ptr), (15, (.int .i64))]), (285, [])], anyOrder := [5, 7, 10, 24], pure := [] } n_laws_FnExactDropBlob [(.agg x0), (.agg x1)] = laws_FnExactDropBlob C x0 x1 := by kernel_rfl
theorem laws_FnExactDropBlob_calls {R : Value → World → Prop} {w : World} (x0 : Array Value) (x1 : Array Value) (h : (laws_FnExactDropBlob (real Try.prog R) x0 x1 : World → Prop) w) :
    Calls Try.prog n_laws_FnExactDropBlob [(.agg x0), (.agg x1)].toArray w fun e w' => ∃ v, e = .returned v ∧ R v w' := fT_sound mixed { loop := [], join := [(16, [(6, .ptr), (7, (.int .i64))]), (22, [(9, .ptr), (10, (.int .i64))]), (138, []), (153, []), (201, []), (73, [(14, .ptr), (15, (.int .i64))]), (285, [])], anyOrder := [5, 7, 10, 24], pure := [] } (by rw [laws_FnExactDropBlob_eq]; exact h)

/-- laws.szStore (7) -/
def laws_szStore (C : Comb) (x0 : Array Value) (x1 : Int) : C.St :=
  C.new ty_laws_Store (.agg x0) fun b2 =>
  C.ld .slice 1 ((Addr.mk b2 0 none).add 0) fun v6 =>
  C.call n_laws_szBlobS [(.slice v6.a v6.n v6.c), (.int .i64 x1)] [(.int .i64)] fun r8 =>
  cond (decide (r8 < 0)) (
    C.ret (.int .i64 (-1))
  ) (
    C.ret (.int .i64 r8)
  )
theorem laws_szStore_eq (C : Comb) (x0 : Array Value) (x1 : Int) : fT C Try.prog { loop := [], join := [], anyOrder := [], pure := [] } n_laws_szStore [(.agg x0), (.int .i64 x1)] = laws_szStore C x0 x1 := by kernel_rfl
theorem laws_szStore_calls {R : Value → World → Prop} {w : World} (x0 : Array Value) (x1 : Int) (h : (laws_szStore (real Try.prog R) x0 x1 : World → Prop) w) :
    Calls Try.prog n_laws_szStore [(.agg x0), (.int .i64 x1)].toArray w fun e w' => ∃ v, e = .returned v ∧ R v w' := fT_sound mixed { loop := [], join := [], anyOrder := [], pure := [] } (by rw [laws_szStore_eq]; exact h)

/-- spec.IsPartOf (8) -/
def spec_IsPartOf (C : Comb) (x0 : Array Value) (x1 : Array Value) : C.St :=
  C.new ty_impl_Store (.agg x0) fun b2 =>
  C.new ty_impl_Store (.agg x1) fun b3 =>
  C.call n_spec_l05Open [(.pointer (some (Addr.mk b2 0 none)))] [.optr, .bool] fun r13 =>
  C.call n_spec_l05Open [(.pointer (some (Addr.mk b3 0 none)))] [.optr, .bool] fun r17 =>
  C.join (TL []) (embL []) (fun s5 => C.any fun _ =>
      C.loop (TL [(.int .i64)]) (embL [(.int .i64)]) [(.int .i64 0)] fun s6 ct6 => C.any fun _ =>
      dpT C r13.1 fun a7 =>
      C.ld .slice 1 (a7.add 0) fun v30 =>
      cond (decide (s6 < (v30.n : Int))) (
        dpT C r13.1 fun a9 =>
        C.ld .slice 1 (a9.add 1) fun v39 =>
        C.ix v39.a v39.n 32 s6 fun p41 =>
        C.ld .agg 32 p41 fun v42 =>
        C.call n_ptr_spec_l05Store_find [(.pointer r17.1), (.agg v42)] [(.int .i64)] fun r43 =>
        C.draw <|
        cond (decide (r43 < 0)) (
          C.all [
            (C.ret (.tuple #[(.bool false), (.int .i64 0)])),
            (C.ret (.tuple #[(.bool false), (.int .i64 0)]))]
        ) (
          dpT C r13.1 fun a14 =>
          dpT C r17.1 fun a15 =>
          C.all [
            (C.ld .slice 1 (a14.add 0) fun v50 =>
             C.ix v50.a v50.n 2 s6 fun p52 =>
             C.ld .slice 1 (a15.add 0) fun v56 =>
             C.ix v56.a v56.n 2 r43 fun p58 =>
             C.call n_spec_l05SameBlob [(.pointer (some p52)), (.pointer (some p58))] [.bool] fun r59 =>
             cond (!r59) (
               C.ret (.tuple #[(.bool false), (.int .i64 0)])
             ) (
               ct6 [(.int .i64 (IntKind.wrap .i64 (s6 + 1)))]
             )),
            (C.ld .slice 1 (a15.add 0) fun v56 =>
             C.ix v56.a v56.n 2 r43 fun p58 =>
             C.ld .slice 1 (a14.add 0) fun v50 =>
             C.ix v50.a v50.n 2 s6 fun p52 =>
             C.call n_spec_l05SameBlob [(.pointer (some p52)), (.pointer (some p58))] [.bool] fun r59 =>
             cond (!r59) (
               C.ret (.tuple #[(.bool false), (.int .i64 0)])
             ) (
               ct6 [(.int .i64 (IntKind.wrap .i64 (s6 + 1)))]
             ))]
        )
      ) (
        C.ret (.tuple #[(.bool true), (.int .i64 0)])
      )
    ) fun jt =>
  cond (!r13.2) (
    C.ret (.tuple #[(.bool false), (.int .i64 1)])
  ) (
    cond (!r17.2) (
      C.ret (.tuple #[(.bool false), (.int .i64 1)])
    ) (
      jt []
    )
  )
theorem spec_IsPartOf_eq (C : Comb) (x0 : Array Value) (x1 : Array Value) : fT C Try.prog { loop := [(6, [(10, (.int .i64))])], join := [(75, [])], anyOrder := [9], pure := [] } n_spec_IsPartOf [(.agg x0), (.agg x1)] = spec_IsPartOf C x0 x1 := by kernel_rfl
theorem spec_IsPartOf_calls {R : Value → World → Prop} {w : World} (x0 : Array Value) (x1 : Array Value) (h : (spec_IsPartOf (real Try.prog R) x0 x1 : World → Prop) w) :
    Calls Try.prog n_spec_IsPartOf [(.agg x0), (.agg x1)].toArray w fun e w' => ∃ v, e = .returned v ∧ R v w' := fT_sound mixed { loop := [(6, [(10, (.int .i64))])], join := [(75, [])], anyOrder := [9], pure := [] } (by rw [spec_IsPartOf_eq]; exact h)

/-- laws.toStore (9) -/
def laws_toStore (C : Comb) (x0 : Array Value) : C.St :=
  C.new ty_laws_Store (.agg x0) fun b1 =>
  C.new ty_impl_Store (.agg (#[(.slice none 0 0)])) fun b2 =>
  C.new ty_impl_Store (.agg (#[(.slice none 0 0)])) fun b3 =>
  C.ld .slice 1 ((Addr.mk b1 0 none).add 0) fun v5 =>
  C.call n_laws_toBlobS [(.slice v5.a v5.n v5.c)] [.slice] fun r6 =>
  C.st 1 ((Addr.mk b3 0 none).add 0) (.slice r6.a r6.n r6.c) <|
  C.ld .agg 1 (Addr.mk b3 0 none) fun v8 =>
  C.st 1 (Addr.mk b2 0 none) (.agg v8) <|
  C.ld .agg 1 (Addr.mk b2 0 none) fun z7 =>
  C.ret (.agg z7)
theorem laws_toStore_eq (C : Comb) (x0 : Array Value) : fT C Try.prog { loop := [], join := [], anyOrder := [], pure := [] } n_laws_toStore [(.agg x0)] = laws_toStore C x0 := by kernel_rfl
theorem laws_toStore_calls {R : Value → World → Prop} {w : World} (x0 : Array Value) (h : (laws_toStore (real Try.prog R) x0 : World → Prop) w) :
    Calls Try.prog n_laws_toStore [(.agg x0)].toArray w fun e w' => ∃ v, e = .returned v ∧ R v w' := fT_sound mixed { loop := [], join := [], anyOrder := [], pure := [] } (by rw [laws_toStore_eq]; exact h)

/-- impl.IsPartOf (10) -/
def impl_IsPartOf (C : Comb) (x0 : Array Value) (x1 : Array Value) : C.St :=
  C.new ty_impl_Store (.agg x0) fun b2 =>
  C.new ty_impl_Store (.agg x1) fun b3 =>
  C.ld .agg 1 (Addr.mk b2 0 none) fun v15 =>
  C.call n_impl_newShop [(.agg v15)] [.optr, .bool] fun r16 =>
  C.ld .agg 1 (Addr.mk b3 0 none) fun v20 =>
  C.call n_impl_newShop [(.agg v20)] [.optr, .bool] fun r21 =>
  C.join (TL []) (embL []) (fun s7 => C.any fun _ =>
      dpT C r16.1 fun a8 =>
      C.ld .slice 1 (a8.add 0) fun v33 =>
      C.loop (TL [(.int .i64)]) (embL [(.int .i64)]) [(.int .i64 0)] fun s10 ct10 => C.any fun _ =>
      cond (decide (s10 < (v33.n : Int))) (
        C.ix v33.a v33.n 32 s10 fun p38 =>
        C.ld .agg 32 p38 fun v39 =>
        C.new ty_impl_Key (.agg (Array.replicate 32 (.int .u8 0))) fun b11 =>
        C.st 32 (Addr.mk b11 0 none) (.agg v39) <|
        C.ld .agg 32 (Addr.mk b11 0 none) fun v42 =>
        C.call n_ptr_impl_shop_get [(.pointer r21.1), (.agg v42)] [.agg, .bool] fun r43 =>
        C.new ty_impl_Blob (.agg (#[(.int .u8 0), (.slice none 0 0)])) fun b12 =>
        C.st 2 (Addr.mk b12 0 none) (.agg r43.1) <|
        C.draw <|
        cond (!r43.2) (
          C.all [
            (C.ret (.tuple #[(.bool false), (.int .i64 0)])),
            (C.all [
               (C.ret (.tuple #[(.bool false), (.int .i64 0)])),
               (C.ret (.tuple #[(.bool false), (.int .i64 0)]))])]
        ) (
          dpT C r16.1 fun a17 =>
          C.all [
            (C.ld .agg 2 (Addr.mk b12 0 none) fun v49 =>
             C.ld .slice 1 (a17.add 1) fun v53 =>
             C.ix v53.a v53.n 2 s10 fun p55 =>
             C.ld .agg 2 p55 fun v56 =>
             C.call n_impl_SameBlob [(.agg v49), (.agg v56)] [.bool] fun r57 =>
             cond (!r57) (
               C.ret (.tuple #[(.bool false), (.int .i64 0)])
             ) (
               ct10 [(.int .i64 (IntKind.wrap .i64 (s10 + 1)))]
             )),
            (C.ld .slice 1 (a17.add 1) fun v53 =>
             C.ix v53.a v53.n 2 s10 fun p55 =>
             C.all [
               (C.ld .agg 2 (Addr.mk b12 0 none) fun v49 =>
                C.ld .agg 2 p55 fun v56 =>
                C.call n_impl_SameBlob [(.agg v49), (.agg v56)] [.bool] fun r57 =>
                cond (!r57) (
                  C.ret (.tuple #[(.bool false), (.int .i64 0)])
                ) (
                  ct10 [(.int .i64 (IntKind.wrap .i64 (s10 + 1)))]
                )),
               (C.ld .agg 2 p55 fun v56 =>
                C.ld .agg 2 (Addr.mk b12 0 none) fun v49 =>
                C.call n_impl_SameBlob [(.agg v49), (.agg v56)] [.bool] fun r57 =>
                cond (!r57) (
                  C.ret (.tuple #[(.bool false), (.int .i64 0)])
                ) (
                  ct10 [(.int .i64 (IntKind.wrap .i64 (s10 + 1)))]
                ))])]
        )
      ) (
        C.ret (.tuple #[(.bool true), (.int .i64 0)])
      )
    ) fun jt =>
  cond (!r16.2) (
    C.ret (.tuple #[(.bool false), (.int .i64 1)])
  ) (
    cond (!r21.2) (
      C.ret (.tuple #[(.bool false), (.int .i64 1)])
    ) (
      jt []
    )
  )
theorem impl_IsPartOf_eq (C : Comb) (x0 : Array Value) (x1 : Array Value) : fT C Try.prog { loop := [(6, [(35, (.int .i64))])], join := [(87, [])], anyOrder := [9], pure := [] } n_impl_IsPartOf [(.agg x0), (.agg x1)] = impl_IsPartOf C x0 x1 := by kernel_rfl
theorem impl_IsPartOf_calls {R : Value → World → Prop} {w : World} (x0 : Array Value) (x1 : Array Value) (h : (impl_IsPartOf (real Try.prog R) x0 x1 : World → Prop) w) :
    Calls Try.prog n_impl_IsPartOf [(.agg x0), (.agg x1)].toArray w fun e w' => ∃ v, e = .returned v ∧ R v w' := fT_sound mixed { loop := [(6, [(35, (.int .i64))])], join := [(87, [])], anyOrder := [9], pure := [] } (by rw [impl_IsPartOf_eq]; exact h)

/-- laws.eqStore (11) -/
def laws_eqStore (C : Comb) (x0 : Array Value) (x1 : Array Value) : C.St :=
  C.new ty_impl_Store (.agg x0) fun b2 =>
  C.new ty_impl_Store (.agg x1) fun b3 =>
  C.ld .slice 1 ((Addr.mk b2 0 none).add 0) fun v6 =>
  C.ld .slice 1 ((Addr.mk b3 0 none).add 0) fun v8 =>
  C.call n_laws_eqBlobS [(.slice v6.a v6.n v6.c), (.slice v8.a v8.n v8.c)] [.bool] fun r9 =>
  cond (!r9) (
    C.ret (.bool false)
  ) (
    C.ret (.bool true)
  )
theorem laws_eqStore_eq (C : Comb) (x0 : Array Value) (x1 : Array Value) : fT C Try.prog { loop := [], join := [], anyOrder := [], pure := [] } n_laws_eqStore [(.agg x0), (.agg x1)] = laws_eqStore C x0 x1 := by kernel_rfl
theorem laws_eqStore_calls {R : Value → World → Prop} {w : World} (x0 : Array Value) (x1 : Array Value) (h : (laws_eqStore (real Try.prog R) x0 x1 : World → Prop) w) :
    Calls Try.prog n_laws_eqStore [(.agg x0), (.agg x1)].toArray w fun e w' => ∃ v, e = .returned v ∧ R v w' := fT_sound mixed { loop := [], join := [], anyOrder := [], pure := [] } (by rw [laws_eqStore_eq]; exact h)

/-- spec.GetBlob (12) -/
def spec_GetBlob (C : Comb) (x0 : Array Value) (x1 : Array Value) : C.St :=
  C.new ty_impl_Store (.agg x0) fun b2 =>
  C.new ty_impl_Key (.agg x1) fun b3 =>
  C.new ty_impl_Blob (.agg (#[(.int .u8 0), (.slice none 0 0)])) fun b4 =>
  C.call n_spec_l05Open [(.pointer (some (Addr.mk b2 0 none)))] [.optr, .bool] fun r10 =>
  cond (!r10.2) (
    C.pur (Instr.build ty_impl_Blob #[]) .agg fun y15 =>
    C.st 2 (Addr.mk b4 0 none) (.agg y15) <|
    C.ld .agg 2 (Addr.mk b4 0 none) fun z6 =>
    C.ret (.tuple #[(.agg z6), (.int .i64 1)])
  ) (
    C.ld .agg 32 (Addr.mk b3 0 none) fun v17 =>
    C.call n_ptr_spec_l05Store_find [(.pointer r10.1), (.agg v17)] [(.int .i64)] fun r18 =>
    cond (decide (r18 < 0)) (
      C.pur (Instr.build ty_impl_Blob #[]) .agg fun y21 =>
      C.st 2 (Addr.mk b4 0 none) (.agg y21) <|
      C.ld .agg 2 (Addr.mk b4 0 none) fun z10 =>
      C.ret (.tuple #[(.agg z10), (.int .i64 6)])
    ) (
      dpT C r10.1 fun a11 =>
      C.ld .slice 1 (a11.add 0) fun v25 =>
      C.ix v25.a v25.n 2 r18 fun p27 =>
      C.ld .agg 2 p27 fun v28 =>
      C.call n_spec_l05Copy [(.agg v28)] [.agg] fun r29 =>
      C.st 2 (Addr.mk b4 0 none) (.agg r29) <|
      C.ld .agg 2 (Addr.mk b4 0 none) fun z16 =>
      C.ret (.tuple #[(.agg z16), (.int .i64 0)])
    )
  )
theorem spec_GetBlob_eq (C : Comb) (x0 : Array Value) (x1 : Array Value) : fT C Try.prog { loop := [], join := [], anyOrder := [], pure := [] } n_spec_GetBlob [(.agg x0), (.agg x1)] = spec_GetBlob C x0 x1 := by kernel_rfl
theorem spec_GetBlob_calls {R : Value → World → Prop} {w : World} (x0 : Array Value) (x1 : Array Value) (h : (spec_GetBlob (real Try.prog R) x0 x1 : World → Prop) w) :
    Calls Try.prog n_spec_GetBlob [(.agg x0), (.agg x1)].toArray w fun e w' => ∃ v, e = .returned v ∧ R v w' := fT_sound mixed { loop := [], join := [], anyOrder := [], pure := [] } (by rw [spec_GetBlob_eq]; exact h)

/-- laws.toKey (13) -/
def laws_toKey (C : Comb) (x0 : Array Value) : C.St :=
  C.new ty_arr32_uint8 (.agg x0) fun b1 =>
  C.new ty_impl_Key (.agg (Array.replicate 32 (.int .u8 0))) fun b2 =>
  C.new ty_impl_Key (.agg (Array.replicate 32 (.int .u8 0))) fun b3 =>
  C.loop (TL [(.int .i64)]) (embL [(.int .i64)]) [(.int .i64 0)] fun s4 ct4 => C.any fun _ =>
  cond (decide (s4 < 32)) (
    C.ix (some (Addr.mk b1 0 none)) 32 1 s4 fun p11 =>
    C.ld (.int .u8) 1 p11 fun v12 =>
    C.ix (some (Addr.mk b3 0 none)) 32 1 s4 fun p13 =>
    C.st 1 p13 (.int .u8 v12) <|
    ct4 [(.int .i64 (IntKind.wrap .i64 (s4 + 1)))]
  ) (
    C.ld .agg 32 (Addr.mk b3 0 none) fun v14 =>
    C.st 32 (Addr.mk b2 0 none) (.agg v14) <|
    C.ld .agg 32 (Addr.mk b2 0 none) fun z9 =>
    C.ret (.agg z9)
  )
theorem laws_toKey_eq (C : Comb) (x0 : Array Value) : fT C Try.prog { loop := [(3, [(4, (.int .i64))])], join := [], anyOrder := [], pure := [] } n_laws_toKey [(.agg x0)] = laws_toKey C x0 := by kernel_rfl
theorem laws_toKey_calls {R : Value → World → Prop} {w : World} (x0 : Array Value) (h : (laws_toKey (real Try.prog R) x0 : World → Prop) w) :
    Calls Try.prog n_laws_toKey [(.agg x0)].toArray w fun e w' => ∃ v, e = .returned v ∧ R v w' := fT_sound mixed { loop := [(3, [(4, (.int .i64))])], join := [], anyOrder := [], pure := [] } (by rw [laws_toKey_eq]; exact h)

/-- impl.GetBlob (14) -/
def impl_GetBlob (C : Comb) (x0 : Array Value) (x1 : Array Value) : C.St :=
  C.new ty_impl_Store (.agg x0) fun b2 =>
  C.new ty_impl_Key (.agg x1) fun b3 =>
  C.new ty_impl_Blob (.agg (#[(.int .u8 0), (.slice none 0 0)])) fun b4 =>
  C.ld .agg 1 (Addr.mk b2 0 none) fun v10 =>
  C.call n_impl_newShop [(.agg v10)] [.optr, .bool] fun r11 =>
  cond (!r11.2) (
    C.pur (Instr.build ty_impl_Blob #[]) .agg fun y16 =>
    C.st 2 (Addr.mk b4 0 none) (.agg y16) <|
    C.ld .agg 2 (Addr.mk b4 0 none) fun z7 =>
    C.ret (.tuple #[(.agg z7), (.int .i64 1)])
  ) (
    C.ld .agg 32 (Addr.mk b3 0 none) fun v19 =>
    C.call n_ptr_impl_shop_get [(.pointer r11.1), (.agg v19)] [.agg, .bool] fun r20 =>
    C.new ty_impl_Blob (.agg (#[(.int .u8 0), (.slice none 0 0)])) fun b8 =>
    C.st 2 (Addr.mk b8 0 none) (.agg r20.1) <|
    cond (!r20.2) (
      C.pur (Instr.build ty_impl_Blob #[]) .agg fun y25 =>
      C.st 2 (Addr.mk b4 0 none) (.agg y25) <|
      C.ld .agg 2 (Addr.mk b4 0 none) fun z12 =>
      C.ret (.tuple #[(.agg z12), (.int .i64 6)])
    ) (
      C.ld .agg 2 (Addr.mk b8 0 none) fun v26 =>
      C.call n_impl_Blob_copied [(.agg v26)] [.agg] fun r27 =>
      C.st 2 (Addr.mk b4 0 none) (.agg r27) <|
      C.ld .agg 2 (Addr.mk b4 0 none) fun z15 =>
      C.ret (.tuple #[(.agg z15), (.int .i64 0)])
    )
  )
theorem impl_GetBlob_eq (C : Comb) (x0 : Array Value) (x1 : Array Value) : fT C Try.prog { loop := [], join := [], anyOrder := [], pure := [] } n_impl_GetBlob [(.agg x0), (.agg x1)] = impl_GetBlob C x0 x1 := by kernel_rfl
theorem impl_GetBlob_calls {R : Value → World → Prop} {w : World} (x0 : Array Value) (x1 : Array Value) (h : (impl_GetBlob (real Try.prog R) x0 x1 : World → Prop) w) :
    Calls Try.prog n_impl_GetBlob [(.agg x0), (.agg x1)].toArray w fun e w' => ∃ v, e = .returned v ∧ R v w' := fT_sound mixed { loop := [], join := [], anyOrder := [], pure := [] } (by rw [impl_GetBlob_eq]; exact h)

/-- laws.eqBlob (15) -/
def laws_eqBlob (C : Comb) (x0 : Array Value) (x1 : Array Value) : C.St :=
  C.new ty_impl_Blob (.agg x0) fun b2 =>
  C.new ty_impl_Blob (.agg x1) fun b3 =>
  C.ld (.int .u8) 1 ((Addr.mk b2 0 none).add 0) fun v6 =>
  C.ld (.int .u8) 1 ((Addr.mk b3 0 none).add 0) fun v8 =>
  cond (v6 != v8) (
    C.ret (.bool false)
  ) (
    C.ld .slice 1 ((Addr.mk b2 0 none).add 1) fun v11 =>
    C.ld .slice 1 ((Addr.mk b3 0 none).add 1) fun v13 =>
    C.call n_laws_eqByteS [(.slice v11.a v11.n v11.c), (.slice v13.a v13.n v13.c)] [.bool] fun r14 =>
    cond (!r14) (
      C.ret (.bool false)
    ) (
      C.ret (.bool true)
    )
  )
theorem laws_eqBlob_eq (C : Comb) (x0 : Array Value) (x1 : Array Value) : fT C Try.prog { loop := [], join := [], anyOrder := [], pure := [] } n_laws_eqBlob [(.agg x0), (.agg x1)] = laws_eqBlob C x0 x1 := by kernel_rfl
theorem laws_eqBlob_calls {R : Value → World → Prop} {w : World} (x0 : Array Value) (x1 : Array Value) (h : (laws_eqBlob (real Try.prog R) x0 x1 : World → Prop) w) :
    Calls Try.prog n_laws_eqBlob [(.agg x0), (.agg x1)].toArray w fun e w' => ∃ v, e = .returned v ∧ R v w' := fT_sound mixed { loop := [], join := [], anyOrder := [], pure := [] } (by rw [laws_eqBlob_eq]; exact h)

/-- laws.markStore (16) -/
def laws_markStore (C : Comb) (x0 : Array Value) (x1 : Int) : C.St :=
  C.new ty_impl_Store (.agg x0) fun b2 =>
  C.ld .slice 1 ((Addr.mk b2 0 none).add 0) fun v6 =>
  C.call n_laws_markBlobS [(.slice v6.a v6.n v6.c), (.int .i64 x1)] [(.int .i64)] fun r8 =>
  C.ret (.int .i64 r8)
theorem laws_markStore_eq (C : Comb) (x0 : Array Value) (x1 : Int) : fT C Try.prog { loop := [], join := [], anyOrder := [], pure := [] } n_laws_markStore [(.agg x0), (.int .i64 x1)] = laws_markStore C x0 x1 := by kernel_rfl
theorem laws_markStore_calls {R : Value → World → Prop} {w : World} (x0 : Array Value) (x1 : Int) (h : (laws_markStore (real Try.prog R) x0 x1 : World → Prop) w) :
    Calls Try.prog n_laws_markStore [(.agg x0), (.int .i64 x1)].toArray w fun e w' => ∃ v, e = .returned v ∧ R v w' := fT_sound mixed { loop := [], join := [], anyOrder := [], pure := [] } (by rw [laws_markStore_eq]; exact h)

/-- laws.markBlob (17) -/
def laws_markBlob (C : Comb) (x0 : Array Value) (x1 : Int) : C.St :=
  C.new ty_impl_Blob (.agg x0) fun b2 =>
  C.ld .slice 1 ((Addr.mk b2 0 none).add 1) fun v6 =>
  C.call n_laws_markByteS [(.slice v6.a v6.n v6.c), (.int .i64 x1)] [(.int .i64)] fun r8 =>
  C.ret (.int .i64 r8)
theorem laws_markBlob_eq (C : Comb) (x0 : Array Value) (x1 : Int) : fT C Try.prog { loop := [], join := [], anyOrder := [], pure := [] } n_laws_markBlob [(.agg x0), (.int .i64 x1)] = laws_markBlob C x0 x1 := by kernel_rfl
theorem laws_markBlob_calls {R : Value → World → Prop} {w : World} (x0 : Array Value) (x1 : Int) (h : (laws_markBlob (real Try.prog R) x0 x1 : World → Prop) w) :
    Calls Try.prog n_laws_markBlob [(.agg x0), (.int .i64 x1)].toArray w fun e w' => ∃ v, e = .returned v ∧ R v w' := fT_sound mixed { loop := [], join := [], anyOrder := [], pure := [] } (by rw [laws_markBlob_eq]; exact h)

/-- laws.heldBlob (18) -/
def laws_heldBlob (C : Comb) (x0 : Array Value) (x1 : Int) : C.St :=
  C.new ty_impl_Blob (.agg x0) fun b2 =>
  C.ld .slice 1 ((Addr.mk b2 0 none).add 1) fun v6 =>
  C.call n_laws_heldByteS [(.slice v6.a v6.n v6.c), (.int .i64 x1)] [(.int .i64)] fun r8 =>
  cond (decide (r8 < 0)) (
    C.ret (.int .i64 (-1))
  ) (
    C.ret (.int .i64 r8)
  )
theorem laws_heldBlob_eq (C : Comb) (x0 : Array Value) (x1 : Int) : fT C Try.prog { loop := [], join := [], anyOrder := [], pure := [] } n_laws_heldBlob [(.agg x0), (.int .i64 x1)] = laws_heldBlob C x0 x1 := by kernel_rfl
theorem laws_heldBlob_calls {R : Value → World → Prop} {w : World} (x0 : Array Value) (x1 : Int) (h : (laws_heldBlob (real Try.prog R) x0 x1 : World → Prop) w) :
    Calls Try.prog n_laws_heldBlob [(.agg x0), (.int .i64 x1)].toArray w fun e w' => ∃ v, e = .returned v ∧ R v w' := fT_sound mixed { loop := [], join := [], anyOrder := [], pure := [] } (by rw [laws_heldBlob_eq]; exact h)

/-- spec.MinusStores (19) -/
def spec_MinusStores (C : Comb) (x0 : Array Value) (x1 : Array Value) : C.St :=
  C.new ty_impl_Store (.agg x0) fun b2 =>
  C.new ty_impl_Store (.agg x1) fun b3 =>
  C.new ty_impl_Store (.agg (#[(.slice none 0 0)])) fun b4 =>
  C.call n_spec_l05Open [(.pointer (some (Addr.mk b2 0 none)))] [.optr, .bool] fun r13 =>
  C.call n_spec_l05Open [(.pointer (some (Addr.mk b3 0 none)))] [.optr, .bool] fun r17 =>
  C.join (TL []) (embL []) (fun s10 => C.any fun _ =>
      dpT C r13.1 fun a11 =>
      C.ld .slice 1 (a11.add 1) fun v30 =>
      C.sem (Instr.makeSlice ty_sl_bool (.int .i64 (v30.n : Int)) (.int .i64 (v30.n : Int))) .slice fun y32 =>
      C.loop (TL [(.int .i64)]) (embL [(.int .i64)]) [(.int .i64 0)] fun s14 ct14 => C.any fun _ =>
      cond (decide (s14 < (y32.n : Int))) (
        dpT C r13.1 fun a15 =>
        C.ld .slice 1 (a15.add 1) fun v45 =>
        C.ix v45.a v45.n 32 s14 fun p47 =>
        C.ld .agg 32 p47 fun v48 =>
        C.call n_ptr_spec_l05Store_find [(.pointer r17.1), (.agg v48)] [(.int .i64)] fun r49 =>
        C.ix y32.a y32.n 1 s14 fun p51 =>
        C.st 1 p51 (.bool (decide (r49 < 0))) <|
        ct14 [(.int .i64 (IntKind.wrap .i64 (s14 + 1)))]
      ) (
        C.call n_ptr_spec_l05Store_keep [(.pointer r13.1), (.slice y32.a y32.n y32.c)] [.ptr] fun r54 =>
        C.call n_ptr_spec_l05Store_store [(.pointer (some r54))] [.agg] fun r55 =>
        C.st 1 (Addr.mk b4 0 none) (.agg r55) <|
        C.ld .agg 1 (Addr.mk b4 0 none) fun z23 =>
        C.ret (.tuple #[(.agg z23), (.int .i64 0)])
      )
    ) fun jt =>
  cond (!r13.2) (
    C.pur (Instr.build ty_impl_Store #[]) .agg fun y26 =>
    C.st 1 (Addr.mk b4 0 none) (.agg y26) <|
    C.ld .agg 1 (Addr.mk b4 0 none) fun z7 =>
    C.ret (.tuple #[(.agg z7), (.int .i64 1)])
  ) (
    cond (!r17.2) (
      C.pur (Instr.build ty_impl_Store #[]) .agg fun y26 =>
      C.st 1 (Addr.mk b4 0 none) (.agg y26) <|
      C.ld .agg 1 (Addr.mk b4 0 none) fun z9 =>
      C.ret (.tuple #[(.agg z9), (.int .i64 1)])
    ) (
      jt []
    )
  )
theorem spec_MinusStores_eq (C : Comb) (x0 : Array Value) (x1 : Array Value) : fT C Try.prog { loop := [(7, [(11, (.int .i64))])], join := [(75, [])], anyOrder := [], pure := [] } n_spec_MinusStores [(.agg x0), (.agg x1)] = spec_MinusStores C x0 x1 := by kernel_rfl
theorem spec_MinusStores_calls {R : Value → World → Prop} {w : World} (x0 : Array Value) (x1 : Array Value) (h : (spec_MinusStores (real Try.prog R) x0 x1 : World → Prop) w) :
    Calls Try.prog n_spec_MinusStores [(.agg x0), (.agg x1)].toArray w fun e w' => ∃ v, e = .returned v ∧ R v w' := fT_sound mixed { loop := [(7, [(11, (.int .i64))])], join := [(75, [])], anyOrder := [], pure := [] } (by rw [spec_MinusStores_eq]; exact h)

/-- impl.MinusStores (20) -/
def impl_MinusStores (C : Comb) (x0 : Array Value) (x1 : Array Value) : C.St :=
  C.new ty_impl_Store (.agg x0) fun b2 =>
  C.new ty_impl_Store (.agg x1) fun b3 =>
  C.new ty_impl_Store (.agg (#[(.slice none 0 0)])) fun b4 =>
  C.ld .agg 1 (Addr.mk b2 0 none) fun v11 =>
  C.call n_impl_newShop [(.agg v11)] [.optr, .bool] fun r12 =>
  C.ld .agg 1 (Addr.mk b3 0 none) fun v16 =>
  C.call n_impl_newShop [(.agg v16)] [.optr, .bool] fun r17 =>
  C.new ty_ptr_impl_shop (.pointer none) fun b8 =>
  C.st 1 (Addr.mk b8 0 none) (.pointer r17.1) <|
  cond (!r12.2) (
    C.pur (Instr.build ty_impl_Store #[]) .agg fun y26 =>
    C.st 1 (Addr.mk b4 0 none) (.agg y26) <|
    C.ld .agg 1 (Addr.mk b4 0 none) fun z10 =>
    C.ret (.tuple #[(.agg z10), (.int .i64 1)])
  ) (
    cond (!r17.2) (
      C.pur (Instr.build ty_impl_Store #[]) .agg fun y26 =>
      C.st 1 (Addr.mk b4 0 none) (.agg y26) <|
      C.ld .agg 1 (Addr.mk b4 0 none) fun z12 =>
      C.ret (.tuple #[(.agg z12), (.int .i64 1)])
    ) (
      C.call n_ptr_impl_shop_kept [(.pointer r12.1), (.func (.func n_impl_MinusStores_1) #[] #[(.pointer (some (Addr.mk b8 0 none)))])] [.agg] fun r29 =>
      C.st 1 (Addr.mk b4 0 none) (.agg r29) <|
      C.ld .agg 1 (Addr.mk b4 0 none) fun z14 =>
      C.ret (.tuple #[(.agg z14), (.int .i64 0)])
    )
  )
theorem impl_MinusStores_eq (C : Comb) (x0 : Array Value) (x1 : Array Value) : fT C Try.prog { loop := [], join := [], anyOrder := [], pure := [] } n_impl_MinusStores [(.agg x0), (.agg x1)] = impl_MinusStores C x0 x1 := by kernel_rfl
theorem impl_MinusStores_calls {R : Value → World → Prop} {w : World} (x0 : Array Value) (x1 : Array Value) (h : (impl_MinusStores (real Try.prog R) x0 x1 : World → Prop) w) :
    Calls Try.prog n_impl_MinusStores [(.agg x0), (.agg x1)].toArray w fun e w' => ∃ v, e = .returned v ∧ R v w' := fT_sound mixed { loop := [], join := [], anyOrder := [], pure := [] } (by rw [impl_MinusStores_eq]; exact h)

/-- laws.heldStore (21) -/
def laws_heldStore (C : Comb) (x0 : Array Value) (x1 : Int) : C.St :=
  C.new ty_impl_Store (.agg x0) fun b2 =>
  C.ld .slice 1 ((Addr.mk b2 0 none).add 0) fun v6 =>
  C.call n_laws_heldBlobS [(.slice v6.a v6.n v6.c), (.int .i64 x1)] [(.int .i64)] fun r8 =>
  cond (decide (r8 < 0)) (
    C.ret (.int .i64 (-1))
  ) (
    C.ret (.int .i64 r8)
  )
theorem laws_heldStore_eq (C : Comb) (x0 : Array Value) (x1 : Int) : fT C Try.prog { loop := [], join := [], anyOrder := [], pure := [] } n_laws_heldStore [(.agg x0), (.int .i64 x1)] = laws_heldStore C x0 x1 := by kernel_rfl
theorem laws_heldStore_calls {R : Value → World → Prop} {w : World} (x0 : Array Value) (x1 : Int) (h : (laws_heldStore (real Try.prog R) x0 x1 : World → Prop) w) :
    Calls Try.prog n_laws_heldStore [(.agg x0), (.int .i64 x1)].toArray w fun e w' => ∃ v, e = .returned v ∧ R v w' := fT_sound mixed { loop := [], join := [], anyOrder := [], pure := [] } (by rw [laws_heldStore_eq]; exact h)

/-- spec.DropBlob (22) -/
def spec_DropBlob (C : Comb) (x0 : Array Value) (x1 : Array Value) : C.St :=
  C.new ty_impl_Store (.agg x0) fun b2 =>
  C.new ty_impl_Key (.agg x1) fun b3 =>
  C.new ty_impl_Store (.agg (#[(.slice none 0 0)])) fun b4 =>
  C.call n_spec_l05Open [(.pointer (some (Addr.mk b2 0 none)))] [.optr, .bool] fun r12 =>
  cond (!r12.2) (
    C.pur (Instr.build ty_impl_Store #[]) .agg fun y17 =>
    C.st 1 (Addr.mk b4 0 none) (.agg y17) <|
    C.ld .agg 1 (Addr.mk b4 0 none) fun z6 =>
    C.ret (.tuple #[(.agg z6), (.int .i64 1)])
  ) (
    C.ld .agg 32 (Addr.mk b3 0 none) fun v19 =>
    C.call n_ptr_spec_l05Store_find [(.pointer r12.1), (.agg v19)] [(.int .i64)] fun r20 =>
    cond (decide (r20 < 0)) (
      C.pur (Instr.build ty_impl_Store #[]) .agg fun y23 =>
      C.st 1 (Addr.mk b4 0 none) (.agg y23) <|
      C.ld .agg 1 (Addr.mk b4 0 none) fun z10 =>
      C.ret (.tuple #[(.agg z10), (.int .i64 6)])
    ) (
      dpT C r12.1 fun a11 =>
      C.ld .slice 1 (a11.add 1) fun v27 =>
      C.sem (Instr.makeSlice ty_sl_bool (.int .i64 (v27.n : Int)) (.int .i64 (v27.n : Int))) .slice fun y29 =>
      C.loop (TL [(.int .i64)]) (embL [(.int .i64)]) [(.int .i64 0)] fun s14 ct14 => C.any fun _ =>
      cond (decide (s14 < (y29.n : Int))) (
        C.ix y29.a y29.n 1 s14 fun p41 =>
        C.st 1 p41 (.bool (s14 != r20)) <|
        ct14 [(.int .i64 (IntKind.wrap .i64 (s14 + 1)))]
      ) (
        C.call n_ptr_spec_l05Store_keep [(.pointer r12.1), (.slice y29.a y29.n y29.c)] [.ptr] fun r44 =>
        C.call n_ptr_spec_l05Store_store [(.pointer (some r44))] [.agg] fun r45 =>
        C.st 1 (Addr.mk b4 0 none) (.agg r45) <|
        C.ld .agg 1 (Addr.mk b4 0 none) fun z18 =>
        C.ret (.tuple #[(.agg z18), (.int .i64 0)])
      )
    )
  )
theorem spec_DropBlob_eq (C : Comb) (x0 : Array Value) (x1 : Array Value) : fT C Try.prog { loop := [(9, [(10, (.int .i64))])], join := [], anyOrder := [], pure := [] } n_spec_DropBlob [(.agg x0), (.agg x1)] = spec_DropBlob C x0 x1 := by kernel_rfl
theorem spec_DropBlob_calls {R : Value → World → Prop} {w : World} (x0 : Array Value) (x1 : Array Value) (h : (spec_DropBlob (real Try.prog R) x0 x1 : World → Prop) w) :
    Calls Try.prog n_spec_DropBlob [(.agg x0), (.agg x1)].toArray w fun e w' => ∃ v, e = .returned v ∧ R v w' := fT_sound mixed { loop := [(9, [(10, (.int .i64))])], join := [], anyOrder := [], pure := [] } (by rw [spec_DropBlob_eq]; exact h)

/-- impl.DropBlob (23) -/
def impl_DropBlob (C : Comb) (x0 : Array Value) (x1 : Array Value) : C.St :=
  C.new ty_impl_Store (.agg x0) fun b2 =>
  C.new ty_impl_Key (.agg x1) fun b3 =>
  C.new ty_impl_Store (.agg (#[(.slice none 0 0)])) fun b4 =>
  C.ld .agg 1 (Addr.mk b2 0 none) fun v9 =>
  C.call n_impl_newShop [(.agg v9)] [.optr, .bool] fun r10 =>
  cond (!r10.2) (
    C.pur (Instr.build ty_impl_Store #[]) .agg fun y16 =>
    C.st 1 (Addr.mk b4 0 none) (.agg y16) <|
    C.ld .agg 1 (Addr.mk b4 0 none) fun z7 =>
    C.ret (.tuple #[(.agg z7), (.int .i64 1)])
  ) (
    C.ld .agg 32 (Addr.mk b3 0 none) fun v19 =>
    C.call n_ptr_impl_shop_has [(.pointer r10.1), (.agg v19)] [.bool] fun r20 =>
    cond (!r20) (
      C.pur (Instr.build ty_impl_Store #[]) .agg fun y22 =>
      C.st 1 (Addr.mk b4 0 none) (.agg y22) <|
      C.ld .agg 1 (Addr.mk b4 0 none) fun z11 =>
      C.ret (.tuple #[(.agg z11), (.int .i64 6)])
    ) (
      C.call n_ptr_impl_shop_kept [(.pointer r10.1), (.func (.func n_impl_DropBlob_1) #[] #[(.pointer (some (Addr.mk b3 0 none)))])] [.agg] fun r25 =>
      C.st 1 (Addr.mk b4 0 none) (.agg r25) <|
      C.ld .agg 1 (Addr.mk b4 0 none) fun z13 =>
      C.ret (.tuple #[(.agg z13), (.int .i64 0)])
    )
  )
theorem impl_DropBlob_eq (C : Comb) (x0 : Array Value) (x1 : Array Value) : fT C Try.prog { loop := [], join := [], anyOrder := [], pure := [] } n_impl_DropBlob [(.agg x0), (.agg x1)] = impl_DropBlob C x0 x1 := by kernel_rfl
theorem impl_DropBlob_calls {R : Value → World → Prop} {w : World} (x0 : Array Value) (x1 : Array Value) (h : (impl_DropBlob (real Try.prog R) x0 x1 : World → Prop) w) :
    Calls Try.prog n_impl_DropBlob [(.agg x0), (.agg x1)].toArray w fun e w' => ∃ v, e = .returned v ∧ R v w' := fT_sound mixed { loop := [], join := [], anyOrder := [], pure := [] } (by rw [impl_DropBlob_eq]; exact h)

/-- laws.szBlobS (24) -/
def laws_szBlobS (C : Comb) (x0 : Sl) (x1 : Int) : C.St :=
  cond (decide ((IntKind.wrap .i64 (x1 - (x0.n : Int))) < 0)) (
    C.ret (.int .i64 (-1))
  ) (
    C.loop (TL [(.int .i64), (.int .i64)]) (embL [(.int .i64), (.int .i64)]) [(.int .i64 (IntKind.wrap .i64 (x1 - (x0.n : Int)))), (.int .i64 0)] fun s1 ct1 => C.any fun _ =>
    cond (decide (s1.2 < (x0.n : Int))) (
      C.ix x0.a x0.n 2 s1.2 fun p20 =>
      C.ld .agg 2 p20 fun v21 =>
      C.call n_laws_szBlob [(.agg v21), (.int .i64 s1.1)] [(.int .i64)] fun r23 =>
      cond (decide (r23 < 0)) (
        C.ret (.int .i64 (-1))
      ) (
        ct1 [(.int .i64 r23), (.int .i64 (IntKind.wrap .i64 (s1.2 + 1)))]
      )
    ) (
      C.ret (.int .i64 s1.1)
    )
  )
theorem laws_szBlobS_eq (C : Comb) (x0 : Sl) (x1 : Int) : fT C Try.prog { loop := [(5, [(1, (.int .i64)), (5, (.int .i64))])], join := [], anyOrder := [], pure := [] } n_laws_szBlobS [(.slice x0.a x0.n x0.c), (.int .i64 x1)] = laws_szBlobS C x0 x1 := by kernel_rfl
theorem laws_szBlobS_calls {R : Value → World → Prop} {w : World} (x0 : Sl) (x1 : Int) (h : (laws_szBlobS (real Try.prog R) x0 x1 : World → Prop) w) :
    Calls Try.prog n_laws_szBlobS [(.slice x0.a x0.n x0.c), (.int .i64 x1)].toArray w fun e w' => ∃ v, e = .returned v ∧ R v w' := fT_sound mixed { loop := [(5, [(1, (.int .i64)), (5, (.int .i64))])], join := [], anyOrder := [], pure := [] } (by rw [laws_szBlobS_eq]; exact h)

/-- spec.l05Open (25) -/
def spec_l05Open (C : Comb) (x0 : Addr) : C.St :=
  C.pur (Instr.build ty_spec_l05Store #[]) .agg fun y7 =>
  C.new ty_spec_l05Store (.agg y7) fun b8 =>
  C.ld .slice 1 (x0.add 0) fun v12 =>
  cond (decide ((v12.n : Int) > 128)) (
    C.ret (.tuple #[(.pointer (some (Addr.mk b8 0 none))), (.bool false)])
  ) (
    C.loop (TL [(.int .i64)]) (embL [(.int .i64)]) [(.int .i64 0)] fun s4 ct4 => C.any fun _ =>
    C.ld .slice 1 (x0.add 0) fun v20 =>
    cond (decide (s4 < (v20.n : Int))) (
      C.ld .slice 1 (x0.add 0) fun v28 =>
      C.ix v28.a v28.n 2 s4 fun p30 =>
      C.call n_spec_l05Blob [(.pointer (some p30))] [.bool] fun r31 =>
      cond (!r31) (
        C.ret (.tuple #[(.pointer (some (Addr.mk b8 0 none))), (.bool false)])
      ) (
        C.ld .slice 1 (x0.add 0) fun v37 =>
        C.ix v37.a v37.n 2 s4 fun p39 =>
        C.call n_spec_l05Key [(.pointer (some p39))] [.agg] fun r40 =>
        C.new ty_impl_Key (.agg (Array.replicate 32 (.int .u8 0))) fun b6 =>
        C.st 32 (Addr.mk b6 0 none) (.agg r40) <|
        C.join (TL []) (embL []) (fun s26 => C.any fun _ =>
            C.join (TL []) (embL []) (fun s33 => C.any fun _ =>
                C.draw <|
                C.ld .slice 1 ((Addr.mk b8 0 none).add 1) fun v77 =>
                C.ld .agg 32 (Addr.mk b6 0 none) fun v78 =>
                C.sem (Instr.buildSlice ty_sl_impl_Key 1 #[(0, (.agg v78))]) .slice fun y79 =>
                C.chk [⟨4, 1, ((Addr.mk b8 0 none).add 1), .slice, v77⟩] <|
                C.sem (Builtin.append_ #[ty_sl_impl_Key, ty_sl_impl_Key] ty_sl_impl_Key #[(.slice v77.a v77.n v77.c), (.slice y79.a y79.n y79.c)]) .slice fun y80 =>
                C.st 1 ((Addr.mk b8 0 none).add 1) (.slice y80.a y80.n y80.c) <|
                ct4 [(.int .i64 (IntKind.wrap .i64 (s4 + 1)))]
              ) fun jt =>
            C.draw <|
            C.ld .slice 1 ((Addr.mk b8 0 none).add 0) fun v61 =>
            C.ld .slice 1 (x0.add 0) fun v65 =>
            C.ix v65.a v65.n 2 s4 fun p67 =>
            C.ld .agg 2 p67 fun v68 =>
            C.sem (Instr.buildSlice ty_sl_impl_Blob 1 #[(0, (.agg v68))]) .slice fun y69 =>
            C.chk [⟨8, 1, (x0.add 0), .slice, v65⟩, ⟨4, 1, ((Addr.mk b8 0 none).add 0), .slice, v61⟩] <|
            C.sem (Builtin.append_ #[ty_sl_impl_Blob, ty_sl_impl_Blob] ty_sl_impl_Blob #[(.slice v61.a v61.n v61.c), (.slice y69.a y69.n y69.c)]) .slice fun y70 =>
            C.chk [⟨8, 1, (x0.add 0), .slice, v65⟩] <|
            C.st 1 ((Addr.mk b8 0 none).add 0) (.slice y70.a y70.n y70.c) <|
            jt []
          ) fun jt =>
        C.draw <|
        cond (decide (s4 > 0)) (
          C.all [
            (C.ld .slice 1 ((Addr.mk b8 0 none).add 1) fun v47 =>
             C.ix v47.a v47.n 32 (IntKind.wrap .i64 (s4 - 1)) fun p50 =>
             C.all [
               (C.ld .agg 32 p50 fun v51 =>
                C.ld .agg 32 (Addr.mk b6 0 none) fun v52 =>
                C.call n_spec_l01Compare [(.agg v51), (.agg v52)] [(.int .i64)] fun r53 =>
                cond (decide (r53 ≥ 0)) (
                  C.ret (.tuple #[(.pointer (some (Addr.mk b8 0 none))), (.bool false)])
                ) (
                  jt []
                )),
               (C.ld .agg 32 (Addr.mk b6 0 none) fun v52 =>
                C.ld .agg 32 p50 fun v51 =>
                C.call n_spec_l01Compare [(.agg v51), (.agg v52)] [(.int .i64)] fun r53 =>
                cond (decide (r53 ≥ 0)) (
                  C.ret (.tuple #[(.pointer (some (Addr.mk b8 0 none))), (.bool false)])
                ) (
                  jt []
                ))]),
            (C.ld .agg 32 (Addr.mk b6 0 none) fun v52 =>
             C.ld .slice 1 ((Addr.mk b8 0 none).add 1) fun v47 =>
             C.ix v47.a v47.n 32 (IntKind.wrap .i64 (s4 - 1)) fun p50 =>
             C.ld .agg 32 p50 fun v51 =>
             C.call n_spec_l01Compare [(.agg v51), (.agg v52)] [(.int .i64)] fun r53 =>
             cond (decide (r53 ≥ 0)) (
               C.ret (.tuple #[(.pointer (some (Addr.mk b8 0 none))), (.bool false)])
             ) (
               jt []
             ))]
        ) (
          C.all [
            (C.all [
               (jt []),
               (jt [])]),
            (jt [])]
        )
      )
    ) (
      C.ret (.tuple #[(.pointer (some (Addr.mk b8 0 none))), (.bool true)])
    )
  )
theorem spec_l05Open_eq (C : Comb) (x0 : Addr) : fT C Try.prog { loop := [(5, [(5, (.int .i64))])], join := [(165, []), (37, [])], anyOrder := [10, 12, 13], pure := [] } n_spec_l05Open [(.pointer (some x0))] = spec_l05Open C x0 := by kernel_rfl
theorem spec_l05Open_calls {R : Value → World → Prop} {w : World} (x0 : Addr) (h : (spec_l05Open (real Try.prog R) x0 : World → Prop) w) :
    Calls Try.prog n_spec_l05Open [(.pointer (some x0))].toArray w fun e w' => ∃ v, e = .returned v ∧ R v w' := fT_sound mixed { loop := [(5, [(5, (.int .i64))])], join := [(165, []), (37, [])], anyOrder := [10, 12, 13], pure := [] } (by rw [spec_l05Open_eq]; exact h)

/-- (*spec.l05Store).find (26) -/
def ptr_spec_l05Store_find (C : Comb) (x0 : Addr) (x1 : Array Value) : C.St :=
  C.new ty_impl_Key (.agg x1) fun b3 =>
  C.loop (TL [(.int .i64)]) (embL [(.int .i64)]) [(.int .i64 0)] fun s2 ct2 => C.any fun _ =>
  C.ld .slice 1 (x0.add 1) fun v10 =>
  cond (decide (s2 < (v10.n : Int))) (
    C.draw <|
    C.ld .slice 1 (x0.add 1) fun v18 =>
    C.ix v18.a v18.n 32 s2 fun p20 =>
    C.ld .agg 32 p20 fun v21 =>
    C.ld .agg 32 (Addr.mk b3 0 none) fun v22 =>
    C.pur (eqB .eql ty_impl_Key (.tmp 21) (.tmp 22) (.agg v21) (.agg v22)) .bool fun y23 =>
    cond y23 (
      C.ret (.int .i64 s2)
    ) (
      ct2 [(.int .i64 (IntKind.wrap .i64 (s2 + 1)))]
    )
  ) (
    C.ret (.int .i64 (-1))
  )
theorem ptr_spec_l05Store_find_eq (C : Comb) (x0 : Addr) (x1 : Array Value) : fT C Try.prog { loop := [(2, [(5, (.int .i64))])], join := [], anyOrder := [], pure := [] } n_ptr_spec_l05Store_find [(.pointer (some x0)), (.agg x1)] = ptr_spec_l05Store_find C x0 x1 := by kernel_rfl
theorem ptr_spec_l05Store_find_calls {R : Value → World → Prop} {w : World} (x0 : Addr) (x1 : Array Value) (h : (ptr_spec_l05Store_find (real Try.prog R) x0 x1 : World → Prop) w) :
    Calls Try.prog n_ptr_spec_l05Store_find [(.pointer (some x0)), (.agg x1)].toArray w fun e w' => ∃ v, e = .returned v ∧ R v w' := fT_sound mixed { loop := [(2, [(5, (.int .i64))])], join := [], anyOrder := [], pure := [] } (by rw [ptr_spec_l05Store_find_eq]; exact h)

/-- spec.l05SameBlob (27) -/
def spec_l05SameBlob (C : Comb) (x0 : Addr) (x1 : Addr) : C.St :=
  C.draw <|
  C.ld (.int .u8) 1 (x0.add 0) fun v8 =>
  C.ld (.int .u8) 1 (x1.add 0) fun v12 =>
  cond (v8 == v12) (
    C.all [
      (C.ld .slice 1 (x0.add 1) fun v18 =>
       C.chk [⟨7, 1, (x1.add 0), (.int .u8), v12⟩, ⟨3, 1, (x0.add 0), (.int .u8), v8⟩] <|
       C.ld .slice 1 (x1.add 1) fun v22 =>
       C.chk [⟨7, 1, (x1.add 0), (.int .u8), v12⟩, ⟨3, 1, (x0.add 0), (.int .u8), v8⟩] <|
       C.call n_spec_l01Bytes [(.slice v18.a v18.n v18.c), (.slice v22.a v22.n v22.c)] [.bool] fun r23 =>
       C.chk [⟨7, 1, (x1.add 0), (.int .u8), v12⟩, ⟨3, 1, (x0.add 0), (.int .u8), v8⟩] <|
       C.ret (.bool r23)),
      (C.ld .slice 1 (x1.add 1) fun v22 =>
       C.chk [⟨7, 1, (x1.add 0), (.int .u8), v12⟩, ⟨3, 1, (x0.add 0), (.int .u8), v8⟩] <|
       C.ld .slice 1 (x0.add 1) fun v18 =>
       C.chk [⟨7, 1, (x1.add 0), (.int .u8), v12⟩, ⟨3, 1, (x0.add 0), (.int .u8), v8⟩] <|
       C.call n_spec_l01Bytes [(.slice v18.a v18.n v18.c), (.slice v22.a v22.n v22.c)] [.bool] fun r23 =>
       C.chk [⟨7, 1, (x1.add 0), (.int .u8), v12⟩, ⟨3, 1, (x0.add 0), (.int .u8), v8⟩] <|
       C.ret (.bool r23))]
  ) (
    C.all [
      (C.chk [⟨7, 1, (x1.add 0), (.int .u8), v12⟩, ⟨3, 1, (x0.add 0), (.int .u8), v8⟩] <|
       C.chk [⟨7, 1, (x1.add 0), (.int .u8), v12⟩, ⟨3, 1, (x0.add 0), (.int .u8), v8⟩] <|
       C.chk [⟨7, 1, (x1.add 0), (.int .u8), v12⟩, ⟨3, 1, (x0.add 0), (.int .u8), v8⟩] <|
       C.ret (.bool false)),
      (C.chk [⟨7, 1, (x1.add 0), (.int .u8), v12⟩, ⟨3, 1, (x0.add 0), (.int .u8), v8⟩] <|
       C.chk [⟨7, 1, (x1.add 0), (.int .u8), v12⟩, ⟨3, 1, (x0.add 0), (.int .u8), v8⟩] <|
       C.chk [⟨7, 1, (x1.add 0), (.int .u8), v12⟩, ⟨3, 1, (x0.add 0), (.int .u8), v8⟩] <|
       C.ret (.bool false))]
  )
theorem spec_l05SameBlob_eq (C : Comb) (x0 : Addr) (x1 : Addr) : fT C Try.prog { loop := [], join := [], anyOrder := [1], pure := [] } n_spec_l05SameBlob [(.pointer (some x0)), (.pointer (some x1))] = spec_l05SameBlob C x0 x1 := by kernel_rfl
theorem spec_l05SameBlob_calls {R : Value → World → Prop} {w : World} (x0 : Addr) (x1 : Addr) (h : (spec_l05SameBlob (real Try.prog R) x0 x1 : World → Prop) w) :
    Calls Try.prog n_spec_l05SameBlob [(.pointer (some x0)), (.pointer (some x1))].toArray w fun e w' => ∃ v, e = .returned v ∧ R v w' := fT_sound mixed { loop := [], join := [], anyOrder := [1], pure := [] } (by rw [spec_l05SameBlob_eq]; exact h)

/-- laws.toBlobS (28) -/
def laws_toBlobS (C : Comb) (x0 : Sl) : C.St :=
  C.sem (Instr.makeSlice ty_sl_impl_Blob (.int .i64 (x0.n : Int)) (.int .i64 (x0.n : Int))) .slice fun y7 =>
  C.loop (TL [(.int .i64)]) (embL [(.int .i64)]) [(.int .i64 0)] fun s2 ct2 => C.any fun _ =>
  cond (decide (s2 < (x0.n : Int))) (
    C.ix x0.a x0.n 2 s2 fun p18 =>
    C.ld .agg 2 p18 fun v19 =>
    C.call n_laws_toBlob [(.agg v19)] [.agg] fun r20 =>
    C.ix y7.a y7.n 2 s2 fun p21 =>
    C.st 2 p21 (.agg r20) <|
    ct2 [(.int .i64 (IntKind.wrap .i64 (s2 + 1)))]
  ) (
    C.ret (.slice y7.a y7.n y7.c)
  )
theorem laws_toBlobS_eq (C : Comb) (x0 : Sl) : fT C Try.prog { loop := [(3, [(4, (.int .i64))])], join := [], anyOrder := [], pure := [] } n_laws_toBlobS [(.slice x0.a x0.n x0.c)] = laws_toBlobS C x0 := by kernel_rfl
theorem laws_toBlobS_calls {R : Value → World → Prop} {w : World} (x0 : Sl) (h : (laws_toBlobS (real Try.prog R) x0 : World → Prop) w) :
    Calls Try.prog n_laws_toBlobS [(.slice x0.a x0.n x0.c)].toArray w fun e w' => ∃ v, e = .returned v ∧ R v w' := fT_sound mixed { loop := [(3, [(4, (.int .i64))])], join := [], anyOrder := [], pure := [] } (by rw [laws_toBlobS_eq]; exact h)

/-- impl.newShop (29) -/
def impl_newShop (C : Comb) (x0 : Array Value) : C.St :=
  C.new ty_impl_Store (.agg x0) fun b1 =>
  C.ld .agg 1 (Addr.mk b1 0 none) fun v4 =>
  C.call n_impl_ValidStore [(.agg v4)] [.bool] fun r5 =>
  cond (!r5) (
    C.ret (.tuple #[(.pointer none), (.bool false)])
  ) (
    C.draw <|
    C.ld .agg 1 (Addr.mk b1 0 none) fun v7 =>
    C.ld .slice 1 ((Addr.mk b1 0 none).add 0) fun v10 =>
    C.call n_impl_Store_keys [(.agg v7)] [.slice] fun r8 =>
    C.chk [⟨3, 1, ((Addr.mk b1 0 none).add 0), .slice, v10⟩] <|
    C.call n_slices_Clone_sl_impl_Blob_impl_Blob [(.slice v10.a v10.n v10.c)] [.slice] fun r11 =>
    C.pur (Instr.build ty_impl_shop #[(0, (.slice r8.a r8.n r8.c)), (1, (.slice r11.a r11.n r11.c))]) .agg fun y12 =>
    C.new ty_impl_shop (.agg y12) fun b13 =>
    C.ret (.tuple #[(.pointer (some (Addr.mk b13 0 none))), (.bool true)])
  )
theorem impl_newShop_eq (C : Comb) (x0 : Array Value) : fT C Try.prog { loop := [], join := [], anyOrder := [3], pure := [] } n_impl_newShop [(.agg x0)] = impl_newShop C x0 := by kernel_rfl
theorem impl_newShop_calls {R : Value → World → Prop} {w : World} (x0 : Array Value) (h : (impl_newShop (real Try.prog R) x0 : World → Prop) w) :
    Calls Try.prog n_impl_newShop [(.agg x0)].toArray w fun e w' => ∃ v, e = .returned v ∧ R v w' := fT_sound mixed { loop := [], join := [], anyOrder := [3], pure := [] } (by rw [impl_newShop_eq]; exact h)

/-- (*impl.shop).get (30) -/
def ptr_impl_shop_get (C : Comb) (x0 : Addr) (x1 : Array Value) : C.St :=
  C.new ty_impl_Key (.agg x1) fun b3 =>
  C.new ty_impl_Blob (.agg (#[(.int .u8 0), (.slice none 0 0)])) fun b4 =>
  C.ld .agg 32 (Addr.mk b3 0 none) fun v10 =>
  C.call n_ptr_impl_shop_find [(.pointer (some x0)), (.agg v10)] [(.int .i64), .bool] fun r11 =>
  cond (!r11.2) (
    C.pur (Instr.build ty_impl_Blob #[]) .agg fun y16 =>
    C.st 2 (Addr.mk b4 0 none) (.agg y16) <|
    C.ld .agg 2 (Addr.mk b4 0 none) fun z6 =>
    C.ret (.tuple #[(.agg z6), (.bool false)])
  ) (
    C.ld .slice 1 (x0.add 1) fun v20 =>
    C.ix v20.a v20.n 2 r11.1 fun p22 =>
    C.ld .agg 2 p22 fun v23 =>
    C.st 2 (Addr.mk b4 0 none) (.agg v23) <|
    C.ld .agg 2 (Addr.mk b4 0 none) fun z10 =>
    C.ret (.tuple #[(.agg z10), (.bool true)])
  )
theorem ptr_impl_shop_get_eq (C : Comb) (x0 : Addr) (x1 : Array Value) : fT C Try.prog { loop := [], join := [], anyOrder := [], pure := [] } n_ptr_impl_shop_get [(.pointer (some x0)), (.agg x1)] = ptr_impl_shop_get C x0 x1 := by kernel_rfl
theorem ptr_impl_shop_get_calls {R : Value → World → Prop} {w : World} (x0 : Addr) (x1 : Array Value) (h : (ptr_impl_shop_get (real Try.prog R) x0 x1 : World → Prop) w) :
    Calls Try.prog n_ptr_impl_shop_get [(.pointer (some x0)), (.agg x1)].toArray w fun e w' => ∃ v, e = .returned v ∧ R v w' := fT_sound mixed { loop := [], join := [], anyOrder := [], pure := [] } (by rw [ptr_impl_shop_get_eq]; exact h)

/-- impl.SameBlob (31) -/
def impl_SameBlob (C : Comb) (x0 : Array Value) (x1 : Array Value) : C.St :=
  C.new ty_impl_Blob (.agg x0) fun b2 =>
  C.new ty_impl_Blob (.agg x1) fun b3 =>
  C.ld (.int .u8) 1 ((Addr.mk b2 0 none).add 0) fun v6 =>
  C.ld (.int .u8) 1 ((Addr.mk b3 0 none).add 0) fun v8 =>
  cond (v6 == v8) (
    C.ld .slice 1 ((Addr.mk b2 0 none).add 1) fun v12 =>
    C.ld .slice 1 ((Addr.mk b3 0 none).add 1) fun v14 =>
    C.call n_bytes_Equal [(.slice v12.a v12.n v12.c), (.slice v14.a v14.n v14.c)] [.bool] fun r15 =>
    C.ret (.bool r15)
  ) (
    C.ret (.bool false)
  )
theorem impl_SameBlob_eq (C : Comb) (x0 : Array Value) (x1 : Array Value) : fT C Try.prog { loop := [], join := [], anyOrder := [], pure := [] } n_impl_SameBlob [(.agg x0), (.agg x1)] = impl_SameBlob C x0 x1 := by kernel_rfl
theorem impl_SameBlob_calls {R : Value → World → Prop} {w : World} (x0 : Array Value) (x1 : Array Value) (h : (impl_SameBlob (real Try.prog R) x0 x1 : World → Prop) w) :
    Calls Try.prog n_impl_SameBlob [(.agg x0), (.agg x1)].toArray w fun e w' => ∃ v, e = .returned v ∧ R v w' := fT_sound mixed { loop := [], join := [], anyOrder := [], pure := [] } (by rw [impl_SameBlob_eq]; exact h)

/-- laws.eqBlobS (32) -/
def laws_eqBlobS (C : Comb) (x0 : Sl) (x1 : Sl) : C.St :=
  cond ((x0.n : Int) != (x1.n : Int)) (
    C.ret (.bool false)
  ) (
    C.loop (TL [(.int .i64)]) (embL [(.int .i64)]) [(.int .i64 0)] fun s1 ct1 => C.any fun _ =>
    cond (decide (s1 < (x0.n : Int))) (
      C.draw <|
      C.ix x0.a x0.n 2 s1 fun p19 =>
      C.ld .agg 2 p19 fun v20 =>
      C.ix x1.a x1.n 2 s1 fun p23 =>
      C.ld .agg 2 p23 fun v24 =>
      C.call n_laws_eqBlob [(.agg v20), (.agg v24)] [.bool] fun r25 =>
      cond (!r25) (
        C.ret (.bool false)
      ) (
        ct1 [(.int .i64 (IntKind.wrap .i64 (s1 + 1)))]
      )
    ) (
      C.ret (.bool true)
    )
  )
theorem laws_eqBlobS_eq (C : Comb) (x0 : Sl) (x1 : Sl) : fT C Try.prog { loop := [(4, [(5, (.int .i64))])], join := [], anyOrder := [6], pure := [] } n_laws_eqBlobS [(.slice x0.a x0.n x0.c), (.slice x1.a x1.n x1.c)] = laws_eqBlobS C x0 x1 := by kernel_rfl
theorem laws_eqBlobS_calls {R : Value → World → Prop} {w : World} (x0 : Sl) (x1 : Sl) (h : (laws_eqBlobS (real Try.prog R) x0 x1 : World → Prop) w) :
    Calls Try.prog n_laws_eqBlobS [(.slice x0.a x0.n x0.c), (.slice x1.a x1.n x1.c)].toArray w fun e w' => ∃ v, e = .returned v ∧ R v w' := fT_sound mixed { loop := [(4, [(5, (.int .i64))])], join := [], anyOrder := [6], pure := [] } (by rw [laws_eqBlobS_eq]; exact h)

/-- spec.l05Copy (33) -/
def spec_l05Copy (C : Comb) (x0 : Array Value) : C.St :=
  C.new ty_impl_Blob (.agg x0) fun b1 =>
  C.new ty_impl_Blob (.agg (#[(.int .u8 0), (.slice none 0 0)])) fun b2 =>
  C.draw <|
  C.ld (.int .u8) 1 ((Addr.mk b1 0 none).add 0) fun v4 =>
  C.ld .slice 1 ((Addr.mk b1 0 none).add 1) fun v7 =>
  C.sem (Instr.buildSlice ty_sl_uint8 0 #[]) .slice fun y5 =>
  C.chk [⟨4, 1, ((Addr.mk b1 0 none).add 1), .slice, v7⟩, ⟨1, 1, ((Addr.mk b1 0 none).add 0), (.int .u8), v4⟩] <|
  C.sem (Builtin.append_ #[ty_sl_uint8, ty_sl_uint8] ty_sl_uint8 #[(.slice y5.a y5.n y5.c), (.slice v7.a v7.n v7.c)]) .slice fun y8 =>
  C.chk [⟨1, 1, ((Addr.mk b1 0 none).add 0), (.int .u8), v4⟩] <|
  C.pur (Instr.build ty_impl_Blob #[(0, (.int .u8 v4)), (1, (.slice y8.a y8.n y8.c))]) .agg fun y9 =>
  C.st 2 (Addr.mk b2 0 none) (.agg y9) <|
  C.ld .agg 2 (Addr.mk b2 0 none) fun z8 =>
  C.ret (.agg z8)
theorem spec_l05Copy_eq (C : Comb) (x0 : Array Value) : fT C Try.prog { loop := [], join := [], anyOrder := [1], pure := [] } n_spec_l05Copy [(.agg x0)] = spec_l05Copy C x0 := by kernel_rfl
theorem spec_l05Copy_calls {R : Value → World → Prop} {w : World} (x0 : Array Value) (h : (spec_l05Copy (real Try.prog R) x0 : World → Prop) w) :
    Calls Try.prog n_spec_l05Copy [(.agg x0)].toArray w fun e w' => ∃ v, e = .returned v ∧ R v w' := fT_sound mixed { loop := [], join := [], anyOrder := [1], pure := [] } (by rw [spec_l05Copy_eq]; exact h)

/-- (impl.Blob).copied (34) -/
def impl_Blob_copied (C : Comb) (x0 : Array Value) : C.St :=
  C.new ty_impl_Blob (.agg x0) fun b1 =>
  C.new ty_impl_Blob (.agg (#[(.int .u8 0), (.slice none 0 0)])) fun b2 =>
  C.draw <|
  C.ld (.int .u8) 1 ((Addr.mk b1 0 none).add 0) fun v4 =>
  C.ld .slice 1 ((Addr.mk b1 0 none).add 1) fun v6 =>
  C.call n_slices_Clone_sl_byte_byte [(.slice v6.a v6.n v6.c)] [.slice] fun r7 =>
  C.chk [⟨1, 1, ((Addr.mk b1 0 none).add 0), (.int .u8), v4⟩] <|
  C.pur (Instr.build ty_impl_Blob #[(0, (.int .u8 v4)), (1, (.slice r7.a r7.n r7.c))]) .agg fun y8 =>
  C.st 2 (Addr.mk b2 0 none) (.agg y8) <|
  C.ld .agg 2 (Addr.mk b2 0 none) fun z7 =>
  C.ret (.agg z7)
theorem impl_Blob_copied_eq (C : Comb) (x0 : Array Value) : fT C Try.prog { loop := [], join := [], anyOrder := [1], pure := [] } n_impl_Blob_copied [(.agg x0)] = impl_Blob_copied C x0 := by kernel_rfl
theorem impl_Blob_copied_calls {R : Value → World → Prop} {w : World} (x0 : Array Value) (h : (impl_Blob_copied (real Try.prog R) x0 : World → Prop) w) :
    Calls Try.prog n_impl_Blob_copied [(.agg x0)].toArray w fun e w' => ∃ v, e = .returned v ∧ R v w' := fT_sound mixed { loop := [], join := [], anyOrder := [1], pure := [] } (by rw [impl_Blob_copied_eq]; exact h)

/-- laws.eqByteS (35) -/
def laws_eqByteS (C : Comb) (x0 : Sl) (x1 : Sl) : C.St :=
  cond ((x0.n : Int) != (x1.n : Int)) (
    C.ret (.bool false)
  ) (
    C.loop (TL [(.int .i64)]) (embL [(.int .i64)]) [(.int .i64 0)] fun s1 ct1 => C.any fun _ =>
    cond (decide (s1 < (x0.n : Int))) (
      C.draw <|
      C.ix x0.a x0.n 1 s1 fun p19 =>
      C.ld (.int .u8) 1 p19 fun v20 =>
      C.ix x1.a x1.n 1 s1 fun p23 =>
      C.ld (.int .u8) 1 p23 fun v24 =>
      cond (v20 != v24) (
        C.ret (.bool false)
      ) (
        ct1 [(.int .i64 (IntKind.wrap .i64 (s1 + 1)))]
      )
    ) (
      C.ret (.bool true)
    )
  )
theorem laws_eqByteS_eq (C : Comb) (x0 : Sl) (x1 : Sl) : fT C Try.prog { loop := [(4, [(5, (.int .i64))])], join := [], anyOrder := [], pure := [] } n_laws_eqByteS [(.slice x0.a x0.n x0.c), (.slice x1.a x1.n x1.c)] = laws_eqByteS C x0 x1 := by kernel_rfl
theorem laws_eqByteS_calls {R : Value → World → Prop} {w : World} (x0 : Sl) (x1 : Sl) (h : (laws_eqByteS (real Try.prog R) x0 x1 : World → Prop) w) :
    Calls Try.prog n_laws_eqByteS [(.slice x0.a x0.n x0.c), (.slice x1.a x1.n x1.c)].toArray w fun e w' => ∃ v, e = .returned v ∧ R v w' := fT_sound mixed { loop := [(4, [(5, (.int .i64))])], join := [], anyOrder := [], pure := [] } (by rw [laws_eqByteS_eq]; exact h)

/-- laws.markBlobS (36) -/
def laws_markBlobS (C : Comb) (x0 : Sl) (x1 : Int) : C.St :=
  C.loop (TL [(.int .i64), (.int .i64)]) (embL [(.int .i64), (.int .i64)]) [(.int .i64 x1), (.int .i64 0)] fun s1 ct1 => C.any fun _ =>
  cond (decide (s1.2 < (x0.n : Int))) (
    C.ix x0.a x0.n 2 s1.2 fun p16 =>
    C.st 1 (p16.add 0) (.int .u8 (IntKind.wrap .u8 (s1.1))) <|
    C.ix x0.a x0.n 2 s1.2 fun p22 =>
    C.ld .slice 1 (p22.add 1) fun v24 =>
    C.call n_laws_markByteS [(.slice v24.a v24.n v24.c), (.int .i64 (IntKind.wrap .i64 (s1.1 + 1)))] [(.int .i64)] fun r26 =>
    ct1 [(.int .i64 r26), (.int .i64 (IntKind.wrap .i64 (s1.2 + 1)))]
  ) (
    C.ret (.int .i64 s1.1)
  )
theorem laws_markBlobS_eq (C : Comb) (x0 : Sl) (x1 : Int) : fT C Try.prog { loop := [(2, [(1, (.int .i64)), (5, (.int .i64))])], join := [], anyOrder := [], pure := [] } n_laws_markBlobS [(.slice x0.a x0.n x0.c), (.int .i64 x1)] = laws_markBlobS C x0 x1 := by kernel_rfl
theorem laws_markBlobS_calls {R : Value → World → Prop} {w : World} (x0 : Sl) (x1 : Int) (h : (laws_markBlobS (real Try.prog R) x0 x1 : World → Prop) w) :
    Calls Try.prog n_laws_markBlobS [(.slice x0.a x0.n x0.c), (.int .i64 x1)].toArray w fun e w' => ∃ v, e = .returned v ∧ R v w' := fT_sound mixed { loop := [(2, [(1, (.int .i64)), (5, (.int .i64))])], join := [], anyOrder := [], pure := [] } (by rw [laws_markBlobS_eq]; exact h)

/-- laws.markByteS (37) -/
def laws_markByteS (C : Comb) (x0 : Sl) (x1 : Int) : C.St :=
  C.loop (TL [(.int .i64), (.int .i64)]) (embL [(.int .i64), (.int .i64)]) [(.int .i64 x1), (.int .i64 0)] fun s1 ct1 => C.any fun _ =>
  cond (decide (s1.2 < (x0.n : Int))) (
    C.ix x0.a x0.n 1 s1.2 fun p16 =>
    C.st 1 p16 (.int .u8 (IntKind.wrap .u8 (s1.1))) <|
    ct1 [(.int .i64 (IntKind.wrap .i64 (s1.1 + 1))), (.int .i64 (IntKind.wrap .i64 (s1.2 + 1)))]
  ) (
    C.ret (.int .i64 s1.1)
  )
theorem laws_markByteS_eq (C : Comb) (x0 : Sl) (x1 : Int) : fT C Try.prog { loop := [(2, [(1, (.int .i64)), (5, (.int .i64))])], join := [], anyOrder := [], pure := [] } n_laws_markByteS [(.slice x0.a x0.n x0.c), (.int .i64 x1)] = laws_markByteS C x0 x1 := by kernel_rfl
theorem laws_markByteS_calls {R : Value → World → Prop} {w : World} (x0 : Sl) (x1 : Int) (h : (laws_markByteS (real Try.prog R) x0 x1 : World → Prop) w) :
    Calls Try.prog n_laws_markByteS [(.slice x0.a x0.n x0.c), (.int .i64 x1)].toArray w fun e w' => ∃ v, e = .returned v ∧ R v w' := fT_sound mixed { loop := [(2, [(1, (.int .i64)), (5, (.int .i64))])], join := [], anyOrder := [], pure := [] } (by rw [laws_markByteS_eq]; exact h)

/-- laws.heldByteS (38) -/
def laws_heldByteS (C : Comb) (x0 : Sl) (x1 : Int) : C.St :=
  C.loop (TL [(.int .i64), (.int .i64)]) (embL [(.int .i64), (.int .i64)]) [(.int .i64 x1), (.int .i64 0)] fun s1 ct1 => C.any fun _ =>
  cond (decide (s1.2 < (x0.n : Int))) (
    C.ix x0.a x0.n 1 s1.2 fun p14 =>
    C.ld (.int .u8) 1 p14 fun v15 =>
    cond (v15 != (IntKind.wrap .u8 (s1.1))) (
      C.ret (.int .i64 (-1))
    ) (
      ct1 [(.int .i64 (IntKind.wrap .i64 (s1.1 + 1))), (.int .i64 (IntKind.wrap .i64 (s1.2 + 1)))]
    )
  ) (
    C.ret (.int .i64 s1.1)
  )
theorem laws_heldByteS_eq (C : Comb) (x0 : Sl) (x1 : Int) : fT C Try.prog { loop := [(2, [(1, (.int .i64)), (5, (.int .i64))])], join := [], anyOrder := [], pure := [] } n_laws_heldByteS [(.slice x0.a x0.n x0.c), (.int .i64 x1)] = laws_heldByteS C x0 x1 := by kernel_rfl
theorem laws_heldByteS_calls {R : Value → World → Prop} {w : World} (x0 : Sl) (x1 : Int) (h : (laws_heldByteS (real Try.prog R) x0 x1 : World → Prop) w) :
    Calls Try.prog n_laws_heldByteS [(.slice x0.a x0.n x0.c), (.int .i64 x1)].toArray w fun e w' => ∃ v, e = .returned v ∧ R v w' := fT_sound mixed { loop := [(2, [(1, (.int .i64)), (5, (.int .i64))])], join := [], anyOrder := [], pure := [] } (by rw [laws_heldByteS_eq]; exact h)

/-- (*spec.l05Store).keep (39) -/
def ptr_spec_l05Store_keep (C : Comb) (x0 : Addr) (x1 : Sl) : C.St :=
  C.pur (Instr.build ty_spec_l05Store #[]) .agg fun y7 =>
  C.new ty_spec_l05Store (.agg y7) fun b8 =>
  C.loop (TL [(.int .i64)]) (embL [(.int .i64)]) [(.int .i64 0)] fun s3 ct3 => C.any fun _ =>
  cond (decide (s3 < (x1.n : Int))) (
    C.ix x1.a x1.n 1 s3 fun p17 =>
    C.ld .bool 1 p17 fun v18 =>
    cond v18 (
      C.join (TL []) (embL []) (fun s12 => C.any fun _ =>
          C.draw <|
          C.ld .slice 1 ((Addr.mk b8 0 none).add 1) fun v39 =>
          C.ld .slice 1 (x0.add 1) fun v43 =>
          C.ix v43.a v43.n 32 s3 fun p45 =>
          C.ld .agg 32 p45 fun v46 =>
          C.sem (Instr.buildSlice ty_sl_impl_Key 1 #[(0, (.agg v46))]) .slice fun y47 =>
          C.chk [⟨8, 1, (x0.add 1), .slice, v43⟩, ⟨4, 1, ((Addr.mk b8 0 none).add 1), .slice, v39⟩] <|
          C.sem (Builtin.append_ #[ty_sl_impl_Key, ty_sl_impl_Key] ty_sl_impl_Key #[(.slice v39.a v39.n v39.c), (.slice y47.a y47.n y47.c)]) .slice fun y48 =>
          C.chk [⟨8, 1, (x0.add 1), .slice, v43⟩] <|
          C.st 1 ((Addr.mk b8 0 none).add 1) (.slice y48.a y48.n y48.c) <|
          ct3 [(.int .i64 (IntKind.wrap .i64 (s3 + 1)))]
        ) fun jt =>
      C.draw <|
      C.ld .slice 1 ((Addr.mk b8 0 none).add 0) fun v23 =>
      C.ld .slice 1 (x0.add 0) fun v27 =>
      C.ix v27.a v27.n 2 s3 fun p29 =>
      C.ld .agg 2 p29 fun v30 =>
      C.sem (Instr.buildSlice ty_sl_impl_Blob 1 #[(0, (.agg v30))]) .slice fun y31 =>
      C.chk [⟨8, 1, (x0.add 0), .slice, v27⟩, ⟨4, 1, ((Addr.mk b8 0 none).add 0), .slice, v23⟩] <|
      C.sem (Builtin.append_ #[ty_sl_impl_Blob, ty_sl_impl_Blob] ty_sl_impl_Blob #[(.slice v23.a v23.n v23.c), (.slice y31.a y31.n y31.c)]) .slice fun y32 =>
      C.chk [⟨8, 1, (x0.add 0), .slice, v27⟩] <|
      C.st 1 ((Addr.mk b8 0 none).add 0) (.slice y32.a y32.n y32.c) <|
      jt []
    ) (
      ct3 [(.int .i64 (IntKind.wrap .i64 (s3 + 1)))]
    )
  ) (
    C.ret (.pointer (some (Addr.mk b8 0 none)))
  )
theorem ptr_spec_l05Store_keep_eq (C : Comb) (x0 : Addr) (x1 : Sl) : fT C Try.prog { loop := [(3, [(6, (.int .i64))])], join := [(19, [])], anyOrder := [6, 7], pure := [] } n_ptr_spec_l05Store_keep [(.pointer (some x0)), (.slice x1.a x1.n x1.c)] = ptr_spec_l05Store_keep C x0 x1 := by kernel_rfl
theorem ptr_spec_l05Store_keep_calls {R : Value → World → Prop} {w : World} (x0 : Addr) (x1 : Sl) (h : (ptr_spec_l05Store_keep (real Try.prog R) x0 x1 : World → Prop) w) :
    Calls Try.prog n_ptr_spec_l05Store_keep [(.pointer (some x0)), (.slice x1.a x1.n x1.c)].toArray w fun e w' => ∃ v, e = .returned v ∧ R v w' := fT_sound mixed { loop := [(3, [(6, (.int .i64))])], join := [(19, [])], anyOrder := [6, 7], pure := [] } (by rw [ptr_spec_l05Store_keep_eq]; exact h)

/-- (*spec.l05Store).store (40) -/
def ptr_spec_l05Store_store (C : Comb) (x0 : Addr) : C.St :=
  C.new ty_impl_Store (.agg (#[(.slice none 0 0)])) fun b2 =>
  C.pur (Instr.build ty_impl_Store #[]) .agg fun y5 =>
  C.new ty_impl_Store (.agg (#[(.slice none 0 0)])) fun b3 =>
  C.st 1 (Addr.mk b3 0 none) (.agg y5) <|
  C.loop (TL [(.int .i64)]) (embL [(.int .i64)]) [(.int .i64 0)] fun s4 ct4 => C.any fun _ =>
  C.ld .slice 1 (x0.add 0) fun v10 =>
  cond (decide (s4 < (v10.n : Int))) (
    C.draw <|
    C.ld .slice 1 ((Addr.mk b3 0 none).add 0) fun v16 =>
    C.ld .slice 1 (x0.add 0) fun v20 =>
    C.ix v20.a v20.n 2 s4 fun p22 =>
    C.ld .agg 2 p22 fun v23 =>
    C.call n_spec_l05Copy [(.agg v23)] [.agg] fun r24 =>
    C.chk [⟨5, 1, (x0.add 0), .slice, v20⟩, ⟨1, 1, ((Addr.mk b3 0 none).add 0), .slice, v16⟩] <|
    C.sem (Instr.buildSlice ty_sl_impl_Blob 1 #[(0, (.agg r24))]) .slice fun y25 =>
    C.chk [⟨5, 1, (x0.add 0), .slice, v20⟩, ⟨1, 1, ((Addr.mk b3 0 none).add 0), .slice, v16⟩] <|
    C.sem (Builtin.append_ #[ty_sl_impl_Blob, ty_sl_impl_Blob] ty_sl_impl_Blob #[(.slice v16.a v16.n v16.c), (.slice y25.a y25.n y25.c)]) .slice fun y26 =>
    C.chk [⟨5, 1, (x0.add 0), .slice, v20⟩] <|
    C.st 1 ((Addr.mk b3 0 none).add 0) (.slice y26.a y26.n y26.c) <|
    ct4 [(.int .i64 (IntKind.wrap .i64 (s4 + 1)))]
  ) (
    C.ld .agg 1 (Addr.mk b3 0 none) fun v28 =>
    C.st 1 (Addr.mk b2 0 none) (.agg v28) <|
    C.ld .agg 1 (Addr.mk b2 0 none) fun z14 =>
    C.ret (.agg z14)
  )
theorem ptr_spec_l05Store_store_eq (C : Comb) (x0 : Addr) : fT C Try.prog { loop := [(3, [(4, (.int .i64))])], join := [], anyOrder := [5], pure := [] } n_ptr_spec_l05Store_store [(.pointer (some x0))] = ptr_spec_l05Store_store C x0 := by kernel_rfl
theorem ptr_spec_l05Store_store_calls {R : Value → World → Prop} {w : World} (x0 : Addr) (h : (ptr_spec_l05Store_store (real Try.prog R) x0 : World → Prop) w) :
    Calls Try.prog n_ptr_spec_l05Store_store [(.pointer (some x0))].toArray w fun e w' => ∃ v, e = .returned v ∧ R v w' := fT_sound mixed { loop := [(3, [(4, (.int .i64))])], join := [], anyOrder := [5], pure := [] } (by rw [ptr_spec_l05Store_store_eq]; exact h)

/-- (*impl.shop).kept (41) -/
def ptr_impl_shop_kept (C : Comb) (x0 : Addr) (x1 : Value) : C.St :=
  C.new ty_impl_Store (.agg (#[(.slice none 0 0)])) fun b4 =>
  C.pur (Instr.build ty_impl_shop #[]) .agg fun y8 =>
  C.new ty_impl_shop (.agg y8) fun b9 =>
  C.ld .slice 1 (x0.add 0) fun v13 =>
  C.loop (TL [(.int .i64)]) (embL [(.int .i64)]) [(.int .i64 0)] fun s5 ct5 => C.any fun _ =>
  cond (decide (s5 < (v13.n : Int))) (
    C.ix v13.a v13.n 32 s5 fun p18 =>
    C.ld .agg 32 p18 fun v19 =>
    C.new ty_impl_Key (.agg (Array.replicate 32 (.int .u8 0))) fun b7 =>
    C.st 32 (Addr.mk b7 0 none) (.agg v19) <|
    C.ld .agg 32 (Addr.mk b7 0 none) fun v21 =>
    C.callV x1 [(.agg v21)] [.bool] fun r22 =>
    cond r22 (
      C.draw <|
      C.ld .slice 1 ((Addr.mk b9 0 none).add 1) fun v27 =>
      C.ld .slice 1 (x0.add 1) fun v31 =>
      C.ix v31.a v31.n 2 s5 fun p33 =>
      C.ld .agg 2 p33 fun v34 =>
      C.sem (Instr.buildSlice ty_sl_impl_Blob 1 #[(0, (.agg v34))]) .slice fun y35 =>
      C.chk [⟨8, 1, (x0.add 1), .slice, v31⟩, ⟨4, 1, ((Addr.mk b9 0 none).add 1), .slice, v27⟩] <|
      C.sem (Builtin.append_ #[ty_sl_impl_Blob, ty_sl_impl_Blob] ty_sl_impl_Blob #[(.slice v27.a v27.n v27.c), (.slice y35.a y35.n y35.c)]) .slice fun y36 =>
      C.chk [⟨8, 1, (x0.add 1), .slice, v31⟩] <|
      C.st 1 ((Addr.mk b9 0 none).add 1) (.slice y36.a y36.n y36.c) <|
      ct5 [(.int .i64 (IntKind.wrap .i64 (s5 + 1)))]
    ) (
      ct5 [(.int .i64 (IntKind.wrap .i64 (s5 + 1)))]
    )
  ) (
    C.call n_ptr_impl_shop_store [(.pointer (some (Addr.mk b9 0 none)))] [.agg] fun r41 =>
    C.st 1 (Addr.mk b4 0 none) (.agg r41) <|
    C.ld .agg 1 (Addr.mk b4 0 none) fun z18 =>
    C.ret (.agg z18)
  )
theorem ptr_impl_shop_kept_eq (C : Comb) (x0 : Addr) (x1 : Value) : fT C Try.prog { loop := [(3, [(15, (.int .i64))])], join := [], anyOrder := [6], pure := [] } n_ptr_impl_shop_kept [(.pointer (some x0)), x1] = ptr_impl_shop_kept C x0 x1 := by kernel_rfl
theorem ptr_impl_shop_kept_calls {R : Value → World → Prop} {w : World} (x0 : Addr) (x1 : Value) (h : (ptr_impl_shop_kept (real Try.prog R) x0 x1 : World → Prop) w) :
    Calls Try.prog n_ptr_impl_shop_kept [(.pointer (some x0)), x1].toArray w fun e w' => ∃ v, e = .returned v ∧ R v w' := fT_sound mixed { loop := [(3, [(15, (.int .i64))])], join := [], anyOrder := [6], pure := [] } (by rw [ptr_impl_shop_kept_eq]; exact h)

/-- impl.MinusStores$1 (42) -/
def impl_MinusStores_1 (C : Comb) (x0 : Array Value) (x1 : Addr) : C.St :=
  C.new ty_impl_Key (.agg x0) fun b2 =>
  C.ld .ptr 1 x1 fun v4 =>
  C.ld .agg 32 (Addr.mk b2 0 none) fun v5 =>
  C.call n_ptr_impl_shop_has [(.pointer (some v4)), (.agg v5)] [.bool] fun r6 =>
  C.ret (.bool (!r6))
theorem impl_MinusStores_1_eq (C : Comb) (x0 : Array Value) (x1 : Addr) : fT C Try.prog { loop := [], join := [], anyOrder := [], pure := [] } n_impl_MinusStores_1 [(.agg x0), (.pointer (some x1))] = impl_MinusStores_1 C x0 x1 := by kernel_rfl
theorem impl_MinusStores_1_calls {R : Value → World → Prop} {w : World} (x0 : Array Value) (x1 : Addr) (h : (impl_MinusStores_1 (real Try.prog R) x0 x1 : World → Prop) w) :
    Calls Try.prog n_impl_MinusStores_1 [(.agg x0), (.pointer (some x1))].toArray w fun e w' => ∃ v, e = .returned v ∧ R v w' := fT_sound mixed { loop := [], join := [], anyOrder := [], pure := [] } (by rw [impl_MinusStores_1_eq]; exact h)

/-- (*impl.shop).has (43) -/
def ptr_impl_shop_has (C : Comb) (x0 : Addr) (x1 : Array Value) : C.St :=
  C.new ty_impl_Key (.agg x1) fun b3 =>
  C.ld .agg 32 (Addr.mk b3 0 none) fun v9 =>
  C.call n_ptr_impl_shop_find [(.pointer (some x0)), (.agg v9)] [(.int .i64), .bool] fun r10 =>
  C.ret (.bool r10.2)
theorem ptr_impl_shop_has_eq (C : Comb) (x0 : Addr) (x1 : Array Value) : fT C Try.prog { loop := [], join := [], anyOrder := [], pure := [] } n_ptr_impl_shop_has [(.pointer (some x0)), (.agg x1)] = ptr_impl_shop_has C x0 x1 := by kernel_rfl
theorem ptr_impl_shop_has_calls {R : Value → World → Prop} {w : World} (x0 : Addr) (x1 : Array Value) (h : (ptr_impl_shop_has (real Try.prog R) x0 x1 : World → Prop) w) :
    Calls Try.prog n_ptr_impl_shop_has [(.pointer (some x0)), (.agg x1)].toArray w fun e w' => ∃ v, e = .returned v ∧ R v w' := fT_sound mixed { loop := [], join := [], anyOrder := [], pure := [] } (by rw [ptr_impl_shop_has_eq]; exact h)

/-- laws.heldBlobS (44) -/
def laws_heldBlobS (C : Comb) (x0 : Sl) (x1 : Int) : C.St :=
  C.loop (TL [(.int .i64), (.int .i64)]) (embL [(.int .i64), (.int .i64)]) [(.int .i64 x1), (.int .i64 0)] fun s1 ct1 => C.any fun _ =>
  cond (decide (s1.2 < (x0.n : Int))) (
    C.ix x0.a x0.n 2 s1.2 fun p14 =>
    C.ld (.int .u8) 1 (p14.add 0) fun v16 =>
    cond (v16 != (IntKind.wrap .u8 (s1.1))) (
      C.ret (.int .i64 (-1))
    ) (
      C.ix x0.a x0.n 2 s1.2 fun p24 =>
      C.ld .slice 1 (p24.add 1) fun v26 =>
      C.call n_laws_heldByteS [(.slice v26.a v26.n v26.c), (.int .i64 (IntKind.wrap .i64 (s1.1 + 1)))] [(.int .i64)] fun r28 =>
      cond (decide (r28 < 0)) (
        C.ret (.int .i64 (-1))
      ) (
        ct1 [(.int .i64 r28), (.int .i64 (IntKind.wrap .i64 (s1.2 + 1)))]
      )
    )
  ) (
    C.ret (.int .i64 s1.1)
  )
theorem laws_heldBlobS_eq (C : Comb) (x0 : Sl) (x1 : Int) : fT C Try.prog { loop := [(2, [(1, (.int .i64)), (5, (.int .i64))])], join := [], anyOrder := [], pure := [] } n_laws_heldBlobS [(.slice x0.a x0.n x0.c), (.int .i64 x1)] = laws_heldBlobS C x0 x1 := by kernel_rfl
theorem laws_heldBlobS_calls {R : Value → World → Prop} {w : World} (x0 : Sl) (x1 : Int) (h : (laws_heldBlobS (real Try.prog R) x0 x1 : World → Prop) w) :
    Calls Try.prog n_laws_heldBlobS [(.slice x0.a x0.n x0.c), (.int .i64 x1)].toArray w fun e w' => ∃ v, e = .returned v ∧ R v w' := fT_sound mixed { loop := [(2, [(1, (.int .i64)), (5, (.int .i64))])], join := [], anyOrder := [], pure := [] } (by rw [laws_heldBlobS_eq]; exact h)

/-- impl.DropBlob$1 (45) -/
def impl_DropBlob_1 (C : Comb) (x0 : Array Value) (x1 : Addr) : C.St :=
  C.new ty_impl_Key (.agg x0) fun b2 =>
  C.ld .agg 32 (Addr.mk b2 0 none) fun v4 =>
  C.ld .agg 32 x1 fun v5 =>
  C.pur (eqB .neq ty_impl_Key (.tmp 4) (.tmp 5) (.agg v4) (.agg v5)) .bool fun y6 =>
  C.ret (.bool y6)
theorem impl_DropBlob_1_eq (C : Comb) (x0 : Array Value) (x1 : Addr) : fT C Try.prog { loop := [], join := [], anyOrder := [], pure := [] } n_impl_DropBlob_1 [(.agg x0), (.pointer (some x1))] = impl_DropBlob_1 C x0 x1 := by kernel_rfl
theorem impl_DropBlob_1_calls {R : Value → World → Prop} {w : World} (x0 : Array Value) (x1 : Addr) (h : (impl_DropBlob_1 (real Try.prog R) x0 x1 : World → Prop) w) :
    Calls Try.prog n_impl_DropBlob_1 [(.agg x0), (.pointer (some x1))].toArray w fun e w' => ∃ v, e = .returned v ∧ R v w' := fT_sound mixed { loop := [], join := [], anyOrder := [], pure := [] } (by rw [impl_DropBlob_1_eq]; exact h)

/-- laws.szBlob (46) -/
def laws_szBlob (C : Comb) (x0 : Array Value) (x1 : Int) : C.St :=
  C.new ty_laws_Blob (.agg x0) fun b2 =>
  C.ld .slice 1 ((Addr.mk b2 0 none).add 1) fun v6 =>
  C.call n_laws_szByteS [(.slice v6.a v6.n v6.c), (.int .i64 x1)] [(.int .i64)] fun r8 =>
  cond (decide (r8 < 0)) (
    C.ret (.int .i64 (-1))
  ) (
    C.ret (.int .i64 r8)
  )
theorem laws_szBlob_eq (C : Comb) (x0 : Array Value) (x1 : Int) : fT C Try.prog { loop := [], join := [], anyOrder := [], pure := [] } n_laws_szBlob [(.agg x0), (.int .i64 x1)] = laws_szBlob C x0 x1 := by kernel_rfl
theorem laws_szBlob_calls {R : Value → World → Prop} {w : World} (x0 : Array Value) (x1 : Int) (h : (laws_szBlob (real Try.prog R) x0 x1 : World → Prop) w) :
    Calls Try.prog n_laws_szBlob [(.agg x0), (.int .i64 x1)].toArray w fun e w' => ∃ v, e = .returned v ∧ R v w' := fT_sound mixed { loop := [], join := [], anyOrder := [], pure := [] } (by rw [laws_szBlob_eq]; exact h)

/-- spec.l05Blob (47) -/
def spec_l05Blob (C : Comb) (x0 : Addr) : C.St :=
  C.ld .slice 1 (x0.add 1) fun v6 =>
  C.ret (.bool (decide ((v6.n : Int) ≤ 1024)))
theorem spec_l05Blob_eq (C : Comb) (x0 : Addr) : fT C Try.prog { loop := [], join := [], anyOrder := [], pure := [] } n_spec_l05Blob [(.pointer (some x0))] = spec_l05Blob C x0 := by kernel_rfl
theorem spec_l05Blob_calls {R : Value → World → Prop} {w : World} (x0 : Addr) (h : (spec_l05Blob (real Try.prog R) x0 : World → Prop) w) :
    Calls Try.prog n_spec_l05Blob [(.pointer (some x0))].toArray w fun e w' => ∃ v, e = .returned v ∧ R v w' := fT_sound mixed { loop := [], join := [], anyOrder := [], pure := [] } (by rw [spec_l05Blob_eq]; exact h)

/-- spec.l05Key (48) -/
def spec_l05Key (C : Comb) (x0 : Addr) : C.St :=
  C.new ty_impl_Key (.agg (Array.replicate 32 (.int .u8 0))) fun b2 =>
  C.draw <|
  C.ld (.int .u8) 1 (x0.add 0) fun v6 =>
  C.ld .slice 1 (x0.add 1) fun v10 =>
  C.call n_spec_l01Hash [(.int .u8 v6), (.slice v10.a v10.n v10.c)] [.agg] fun r11 =>
  C.st 32 (Addr.mk b2 0 none) (.agg r11) <|
  C.ld .agg 32 (Addr.mk b2 0 none) fun z5 =>
  C.ret (.agg z5)
theorem spec_l05Key_eq (C : Comb) (x0 : Addr) : fT C Try.prog { loop := [], join := [], anyOrder := [1], pure := [] } n_spec_l05Key [(.pointer (some x0))] = spec_l05Key C x0 := by kernel_rfl
theorem spec_l05Key_calls {R : Value → World → Prop} {w : World} (x0 : Addr) (h : (spec_l05Key (real Try.prog R) x0 : World → Prop) w) :
    Calls Try.prog n_spec_l05Key [(.pointer (some x0))].toArray w fun e w' => ∃ v, e = .returned v ∧ R v w' := fT_sound mixed { loop := [], join := [], anyOrder := [1], pure := [] } (by rw [spec_l05Key_eq]; exact h)

/-- spec.l01Compare (49) -/
def spec_l01Compare (C : Comb) (x0 : Array Value) (x1 : Array Value) : C.St :=
  C.new ty_impl_Key (.agg x0) fun b2 =>
  C.new ty_impl_Key (.agg x1) fun b3 =>
  C.loop (TL [(.int .i64)]) (embL [(.int .i64)]) [(.int .i64 0)] fun s3 ct3 => C.any fun _ =>
  cond (decide (s3 < 32)) (
    C.draw <|
    C.ix (some (Addr.mk b2 0 none)) 32 1 s3 fun p11 =>
    C.ld (.int .u8) 1 p11 fun v12 =>
    C.ix (some (Addr.mk b3 0 none)) 32 1 s3 fun p14 =>
    C.ld (.int .u8) 1 p14 fun v15 =>
    cond (v12 != v15) (
      C.draw <|
      C.ix (some (Addr.mk b2 0 none)) 32 1 s3 fun p18 =>
      C.ld (.int .u8) 1 p18 fun v19 =>
      C.ix (some (Addr.mk b3 0 none)) 32 1 s3 fun p21 =>
      C.ld (.int .u8) 1 p21 fun v22 =>
      cond (decide (v19 < v22)) (
        C.ret (.int .i64 (-1))
      ) (
        C.ret (.int .i64 1)
      )
    ) (
      ct3 [(.int .i64 (IntKind.wrap .i64 (s3 + 1)))]
    )
  ) (
    C.ret (.int .i64 0)
  )
theorem spec_l01Compare_eq (C : Comb) (x0 : Array Value) (x1 : Array Value) : fT C Try.prog { loop := [(2, [(5, (.int .i64))])], join := [], anyOrder := [], pure := [] } n_spec_l01Compare [(.agg x0), (.agg x1)] = spec_l01Compare C x0 x1 := by kernel_rfl
theorem spec_l01Compare_calls {R : Value → World → Prop} {w : World} (x0 : Array Value) (x1 : Array Value) (h : (spec_l01Compare (real Try.prog R) x0 x1 : World → Prop) w) :
    Calls Try.prog n_spec_l01Compare [(.agg x0), (.agg x1)].toArray w fun e w' => ∃ v, e = .returned v ∧ R v w' := fT_sound mixed { loop := [(2, [(5, (.int .i64))])], join := [], anyOrder := [], pure := [] } (by rw [spec_l01Compare_eq]; exact h)

/-- spec.l01Bytes (50) -/
def spec_l01Bytes (C : Comb) (x0 : Sl) (x1 : Sl) : C.St :=
  cond ((x0.n : Int) != (x1.n : Int)) (
    C.ret (.bool false)
  ) (
    C.loop (TL [(.int .i64)]) (embL [(.int .i64)]) [(.int .i64 0)] fun s1 ct1 => C.any fun _ =>
    cond (decide (s1 < (x0.n : Int))) (
      C.draw <|
      C.ix x0.a x0.n 1 s1 fun p19 =>
      C.ld (.int .u8) 1 p19 fun v20 =>
      C.ix x1.a x1.n 1 s1 fun p23 =>
      C.ld (.int .u8) 1 p23 fun v24 =>
      cond (v20 != v24) (
        C.ret (.bool false)
      ) (
        ct1 [(.int .i64 (IntKind.wrap .i64 (s1 + 1)))]
      )
    ) (
      C.ret (.bool true)
    )
  )
theorem spec_l01Bytes_eq (C : Comb) (x0 : Sl) (x1 : Sl) : fT C Try.prog { loop := [(4, [(5, (.int .i64))])], join := [], anyOrder := [], pure := [] } n_spec_l01Bytes [(.slice x0.a x0.n x0.c), (.slice x1.a x1.n x1.c)] = spec_l01Bytes C x0 x1 := by kernel_rfl
theorem spec_l01Bytes_calls {R : Value → World → Prop} {w : World} (x0 : Sl) (x1 : Sl) (h : (spec_l01Bytes (real Try.prog R) x0 x1 : World → Prop) w) :
    Calls Try.prog n_spec_l01Bytes [(.slice x0.a x0.n x0.c), (.slice x1.a x1.n x1.c)].toArray w fun e w' => ∃ v, e = .returned v ∧ R v w' := fT_sound mixed { loop := [(4, [(5, (.int .i64))])], join := [], anyOrder := [], pure := [] } (by rw [spec_l01Bytes_eq]; exact h)

/-- laws.toBlob (51) -/
def laws_toBlob (C : Comb) (x0 : Array Value) : C.St :=
  C.new ty_laws_Blob (.agg x0) fun b1 =>
  C.new ty_impl_Blob (.agg (#[(.int .u8 0), (.slice none 0 0)])) fun b2 =>
  C.new ty_impl_Blob (.agg (#[(.int .u8 0), (.slice none 0 0)])) fun b3 =>
  C.ld (.int .u8) 1 ((Addr.mk b1 0 none).add 0) fun v5 =>
  C.st 1 ((Addr.mk b3 0 none).add 0) (.int .u8 v5) <|
  C.ld .slice 1 ((Addr.mk b1 0 none).add 1) fun v8 =>
  C.call n_laws_toByteS [(.slice v8.a v8.n v8.c)] [.slice] fun r9 =>
  C.st 1 ((Addr.mk b3 0 none).add 1) (.slice r9.a r9.n r9.c) <|
  C.ld .agg 2 (Addr.mk b3 0 none) fun v11 =>
  C.st 2 (Addr.mk b2 0 none) (.agg v11) <|
  C.ld .agg 2 (Addr.mk b2 0 none) fun z8 =>
  C.ret (.agg z8)
theorem laws_toBlob_eq (C : Comb) (x0 : Array Value) : fT C Try.prog { loop := [], join := [], anyOrder := [], pure := [] } n_laws_toBlob [(.agg x0)] = laws_toBlob C x0 := by kernel_rfl
theorem laws_toBlob_calls {R : Value → World → Prop} {w : World} (x0 : Array Value) (h : (laws_toBlob (real Try.prog R) x0 : World → Prop) w) :
    Calls Try.prog n_laws_toBlob [(.agg x0)].toArray w fun e w' => ∃ v, e = .returned v ∧ R v w' := fT_sound mixed { loop := [], join := [], anyOrder := [], pure := [] } (by rw [laws_toBlob_eq]; exact h)

/-- impl.ValidStore (52) -/
def impl_ValidStore (C : Comb) (x0 : Array Value) : C.St :=
  C.new ty_impl_Store (.agg x0) fun b1 =>
  C.join (TL []) (embL []) (fun s5 => C.any fun _ =>
      C.ld .agg 1 (Addr.mk b1 0 none) fun v13 =>
      C.call n_impl_Store_keys [(.agg v13)] [.slice] fun r14 =>
      C.call n_impl_sorted [(.slice r14.a r14.n r14.c)] [.slice] fun r16 =>
      cond ((r16.n : Int) == (r14.n : Int)) (
        C.call n_slices_IsSortedFunc_sl_impl_Key_impl_Key [(.slice r14.a r14.n r14.c), (.func (.func n_impl_compareKeys) #[] #[])] [.bool] fun r23 =>
        C.ret (.bool r23)
      ) (
        C.ret (.bool false)
      )
    ) fun jt =>
  C.ld .slice 1 ((Addr.mk b1 0 none).add 0) fun v5 =>
  cond (decide ((v5.n : Int) > 128)) (
    C.ret (.bool false)
  ) (
    C.ld .slice 1 ((Addr.mk b1 0 none).add 0) fun v10 =>
    C.call n_slices_ContainsFunc_sl_impl_Blob_impl_Blob [(.slice v10.a v10.n v10.c), (.func (.func n_impl_ValidStore_1) #[] #[])] [.bool] fun r11 =>
    cond r11 (
      C.ret (.bool false)
    ) (
      jt []
    )
  )
theorem impl_ValidStore_eq (C : Comb) (x0 : Array Value) : fT C Try.prog { loop := [], join := [(36, [])], anyOrder := [], pure := [] } n_impl_ValidStore [(.agg x0)] = impl_ValidStore C x0 := by kernel_rfl
theorem impl_ValidStore_calls {R : Value → World → Prop} {w : World} (x0 : Array Value) (h : (impl_ValidStore (real Try.prog R) x0 : World → Prop) w) :
    Calls Try.prog n_impl_ValidStore [(.agg x0)].toArray w fun e w' => ∃ v, e = .returned v ∧ R v w' := fT_sound mixed { loop := [], join := [(36, [])], anyOrder := [], pure := [] } (by rw [impl_ValidStore_eq]; exact h)

/-- (impl.Store).keys (53) -/
def impl_Store_keys (C : Comb) (x0 : Array Value) : C.St :=
  C.new ty_impl_Store (.agg x0) fun b1 =>
  C.sem (Instr.buildSlice ty_sl_impl_Key 0 #[]) .slice fun y6 =>
  C.ld .slice 1 ((Addr.mk b1 0 none).add 0) fun v8 =>
  C.loop (TL [.slice, (.int .i64)]) (embL [.slice, (.int .i64)]) [(.slice y6.a y6.n y6.c), (.int .i64 0)] fun s4 ct4 => C.any fun _ =>
  cond (decide (s4.2 < (v8.n : Int))) (
    C.ix v8.a v8.n 2 s4.2 fun p12 =>
    C.ld .agg 2 p12 fun v13 =>
    C.new ty_impl_Blob (.agg (#[(.int .u8 0), (.slice none 0 0)])) fun b5 =>
    C.st 2 (Addr.mk b5 0 none) (.agg v13) <|
    C.ld .agg 2 (Addr.mk b5 0 none) fun v15 =>
    C.call n_impl_Blob_key [(.agg v15)] [.agg] fun r16 =>
    C.sem (Instr.buildSlice ty_sl_impl_Key 1 #[(0, (.agg r16))]) .slice fun y17 =>
    C.sem (Builtin.append_ #[ty_sl_impl_Key, ty_sl_impl_Key] ty_sl_impl_Key #[(.slice s4.1.a s4.1.n s4.1.c), (.slice y17.a y17.n y17.c)]) .slice fun y18 =>
    ct4 [(.slice y18.a y18.n y18.c), (.int .i64 (IntKind.wrap .i64 (s4.2 + 1)))]
  ) (
    C.ret (.slice s4.1.a s4.1.n s4.1.c)
  )
theorem impl_Store_keys_eq (C : Comb) (x0 : Array Value) : fT C Try.prog { loop := [(3, [(3, .slice), (10, (.int .i64))])], join := [], anyOrder := [], pure := [] } n_impl_Store_keys [(.agg x0)] = impl_Store_keys C x0 := by kernel_rfl
theorem impl_Store_keys_calls {R : Value → World → Prop} {w : World} (x0 : Array Value) (h : (impl_Store_keys (real Try.prog R) x0 : World → Prop) w) :
    Calls Try.prog n_impl_Store_keys [(.agg x0)].toArray w fun e w' => ∃ v, e = .returned v ∧ R v w' := fT_sound mixed { loop := [(3, [(3, .slice), (10, (.int .i64))])], join := [], anyOrder := [], pure := [] } (by rw [impl_Store_keys_eq]; exact h)

/-- slices.Clone[[]impl.Blob,impl.Blob] (54) -/
def slices_Clone_sl_impl_Blob_impl_Blob (C : Comb) (x0 : Sl) : C.St :=
  C.pur (eqB .eql ty_sl_impl_Blob (.tmp 3) (.const (.slice none 0 0)) (.slice x0.a x0.n x0.c) (.slice none 0 0)) .bool fun y4 =>
  cond y4 (
    C.ret (.slice none 0 0)
  ) (
    C.sem (Instr.buildSlice ty_sl_impl_Blob 0 #[]) .slice fun y5 =>
    C.sem (Builtin.append_ #[ty_sl_impl_Blob, ty_sl_impl_Blob] ty_sl_impl_Blob #[(.slice y5.a y5.n y5.c), (.slice x0.a x0.n x0.c)]) .slice fun y7 =>
    C.ret (.slice y7.a y7.n y7.c)
  )
theorem slices_Clone_sl_impl_Blob_impl_Blob_eq (C : Comb) (x0 : Sl) : fT C Try.prog { loop := [], join := [], anyOrder := [], pure := [] } n_slices_Clone_sl_impl_Blob_impl_Blob [(.slice x0.a x0.n x0.c)] = slices_Clone_sl_impl_Blob_impl_Blob C x0 := by kernel_rfl
theorem slices_Clone_sl_impl_Blob_impl_Blob_calls {R : Value → World → Prop} {w : World} (x0 : Sl) (h : (slices_Clone_sl_impl_Blob_impl_Blob (real Try.prog R) x0 : World → Prop) w) :
    Calls Try.prog n_slices_Clone_sl_impl_Blob_impl_Blob [(.slice x0.a x0.n x0.c)].toArray w fun e w' => ∃ v, e = .returned v ∧ R v w' := fT_sound mixed { loop := [], join := [], anyOrder := [], pure := [] } (by rw [slices_Clone_sl_impl_Blob_impl_Blob_eq]; exact h)

/-- (*impl.shop).find (55) -/
def ptr_impl_shop_find (C : Comb) (x0 : Addr) (x1 : Array Value) : C.St :=
  C.new ty_impl_Key (.agg x1) fun b3 =>
  C.draw <|
  C.ld .slice 1 (x0.add 0) fun v9 =>
  C.ld .agg 32 (Addr.mk b3 0 none) fun v10 =>
  C.call n_slices_BinarySearchFunc_sl_impl_Key_impl_Key_impl_Key [(.slice v9.a v9.n v9.c), (.agg v10), (.func (.func n_impl_compareKeys) #[] #[])] [(.int .i64), .bool] fun r11 =>
  C.ret (.tuple #[(.int .i64 r11.1), (.bool r11.2)])
theorem ptr_impl_shop_find_eq (C : Comb) (x0 : Addr) (x1 : Array Value) : fT C Try.prog { loop := [], join := [], anyOrder := [1], pure := [] } n_ptr_impl_shop_find [(.pointer (some x0)), (.agg x1)] = ptr_impl_shop_find C x0 x1 := by kernel_rfl
theorem ptr_impl_shop_find_calls {R : Value → World → Prop} {w : World} (x0 : Addr) (x1 : Array Value) (h : (ptr_impl_shop_find (real Try.prog R) x0 x1 : World → Prop) w) :
    Calls Try.prog n_ptr_impl_shop_find [(.pointer (some x0)), (.agg x1)].toArray w fun e w' => ∃ v, e = .returned v ∧ R v w' := fT_sound mixed { loop := [], join := [], anyOrder := [1], pure := [] } (by rw [ptr_impl_shop_find_eq]; exact h)

/-- bytes.Equal (56) -/
def bytes_Equal (C : Comb) (x0 : Sl) (x1 : Sl) : C.St :=
  C.sem (convert ty_sl_uint8 ty_string (.slice x0.a x0.n x0.c)) .str fun y6 =>
  C.sem (convert ty_sl_uint8 ty_string (.slice x1.a x1.n x1.c)) .str fun y8 =>
  C.pur (eqB .eql ty_string (.tmp 6) (.tmp 8) (.string y6) (.string y8)) .bool fun y9 =>
  C.ret (.bool y9)
theorem bytes_Equal_eq (C : Comb) (x0 : Sl) (x1 : Sl) : fT C Try.prog { loop := [], join := [], anyOrder := [], pure := [] } n_bytes_Equal [(.slice x0.a x0.n x0.c), (.slice x1.a x1.n x1.c)] = bytes_Equal C x0 x1 := by kernel_rfl
theorem bytes_Equal_calls {R : Value → World → Prop} {w : World} (x0 : Sl) (x1 : Sl) (h : (bytes_Equal (real Try.prog R) x0 x1 : World → Prop) w) :
    Calls Try.prog n_bytes_Equal [(.slice x0.a x0.n x0.c), (.slice x1.a x1.n x1.c)].toArray w fun e w' => ∃ v, e = .returned v ∧ R v w' := fT_sound mixed { loop := [], join := [], anyOrder := [], pure := [] } (by rw [bytes_Equal_eq]; exact h)

/-- slices.Clone[[]byte,byte] (57) -/
def slices_Clone_sl_byte_byte (C : Comb) (x0 : Sl) : C.St :=
  C.pur (eqB .eql ty_sl_uint8 (.tmp 3) (.const (.slice none 0 0)) (.slice x0.a x0.n x0.c) (.slice none 0 0)) .bool fun y4 =>
  cond y4 (
    C.ret (.slice none 0 0)
  ) (
    C.sem (Instr.buildSlice ty_sl_uint8 0 #[]) .slice fun y5 =>
    C.sem (Builtin.append_ #[ty_sl_uint8, ty_sl_uint8] ty_sl_uint8 #[(.slice y5.a y5.n y5.c), (.slice x0.a x0.n x0.c)]) .slice fun y7 =>
    C.ret (.slice y7.a y7.n y7.c)
  )
theorem slices_Clone_sl_byte_byte_eq (C : Comb) (x0 : Sl) : fT C Try.prog { loop := [], join := [], anyOrder := [], pure := [] } n_slices_Clone_sl_byte_byte [(.slice x0.a x0.n x0.c)] = slices_Clone_sl_byte_byte C x0 := by kernel_rfl
theorem slices_Clone_sl_byte_byte_calls {R : Value → World → Prop} {w : World} (x0 : Sl) (h : (slices_Clone_sl_byte_byte (real Try.prog R) x0 : World → Prop) w) :
    Calls Try.prog n_slices_Clone_sl_byte_byte [(.slice x0.a x0.n x0.c)].toArray w fun e w' => ∃ v, e = .returned v ∧ R v w' := fT_sound mixed { loop := [], join := [], anyOrder := [], pure := [] } (by rw [slices_Clone_sl_byte_byte_eq]; exact h)

/-- (*impl.shop).store (58) -/
def ptr_impl_shop_store (C : Comb) (x0 : Addr) : C.St :=
  C.new ty_impl_Store (.agg (#[(.slice none 0 0)])) fun b2 =>
  C.pur (Instr.build ty_impl_Store #[]) .agg fun y6 =>
  C.new ty_impl_Store (.agg (#[(.slice none 0 0)])) fun b3 =>
  C.st 1 (Addr.mk b3 0 none) (.agg y6) <|
  C.ld .slice 1 (x0.add 1) fun v10 =>
  C.loop (TL [(.int .i64)]) (embL [(.int .i64)]) [(.int .i64 0)] fun s5 ct5 => C.any fun _ =>
  cond (decide (s5 < (v10.n : Int))) (
    C.ix v10.a v10.n 2 s5 fun p14 =>
    C.ld .agg 2 p14 fun v15 =>
    C.new ty_impl_Blob (.agg (#[(.int .u8 0), (.slice none 0 0)])) fun b5 =>
    C.st 2 (Addr.mk b5 0 none) (.agg v15) <|
    C.draw <|
    C.ld .slice 1 ((Addr.mk b3 0 none).add 0) fun v17 =>
    C.ld .agg 2 (Addr.mk b5 0 none) fun v18 =>
    C.call n_impl_Blob_copied [(.agg v18)] [.agg] fun r19 =>
    C.chk [⟨1, 1, ((Addr.mk b3 0 none).add 0), .slice, v17⟩] <|
    C.sem (Instr.buildSlice ty_sl_impl_Blob 1 #[(0, (.agg r19))]) .slice fun y20 =>
    C.chk [⟨1, 1, ((Addr.mk b3 0 none).add 0), .slice, v17⟩] <|
    C.sem (Builtin.append_ #[ty_sl_impl_Blob, ty_sl_impl_Blob] ty_sl_impl_Blob #[(.slice v17.a v17.n v17.c), (.slice y20.a y20.n y20.c)]) .slice fun y21 =>
    C.st 1 ((Addr.mk b3 0 none).add 0) (.slice y21.a y21.n y21.c) <|
    ct5 [(.int .i64 (IntKind.wrap .i64 (s5 + 1)))]
  ) (
    C.ld .agg 1 (Addr.mk b3 0 none) fun v24 =>
    C.st 1 (Addr.mk b2 0 none) (.agg v24) <|
    C.ld .agg 1 (Addr.mk b2 0 none) fun z15 =>
    C.ret (.agg z15)
  )
theorem ptr_impl_shop_store_eq (C : Comb) (x0 : Addr) : fT C Try.prog { loop := [(3, [(12, (.int .i64))])], join := [], anyOrder := [5], pure := [] } n_ptr_impl_shop_store [(.pointer (some x0))] = ptr_impl_shop_store C x0 := by kernel_rfl
theorem ptr_impl_shop_store_calls {R : Value → World → Prop} {w : World} (x0 : Addr) (h : (ptr_impl_shop_store (real Try.prog R) x0 : World → Prop) w) :
    Calls Try.prog n_ptr_impl_shop_store [(.pointer (some x0))].toArray w fun e w' => ∃ v, e = .returned v ∧ R v w' := fT_sound mixed { loop := [(3, [(12, (.int .i64))])], join := [], anyOrder := [5], pure := [] } (by rw [ptr_impl_shop_store_eq]; exact h)

/-- laws.szByteS (59) -/
def laws_szByteS (C : Comb) (x0 : Sl) (x1 : Int) : C.St :=
  cond (decide ((IntKind.wrap .i64 (x1 - (x0.n : Int))) < 0)) (
    C.ret (.int .i64 (-1))
  ) (
    C.ret (.int .i64 (IntKind.wrap .i64 (x1 - (x0.n : Int))))
  )
theorem laws_szByteS_eq (C : Comb) (x0 : Sl) (x1 : Int) : fT C Try.prog { loop := [], join := [], anyOrder := [], pure := [] } n_laws_szByteS [(.slice x0.a x0.n x0.c), (.int .i64 x1)] = laws_szByteS C x0 x1 := by kernel_rfl
theorem laws_szByteS_calls {R : Value → World → Prop} {w : World} (x0 : Sl) (x1 : Int) (h : (laws_szByteS (real Try.prog R) x0 x1 : World → Prop) w) :
    Calls Try.prog n_laws_szByteS [(.slice x0.a x0.n x0.c), (.int .i64 x1)].toArray w fun e w' => ∃ v, e = .returned v ∧ R v w' := fT_sound mixed { loop := [], join := [], anyOrder := [], pure := [] } (by rw [laws_szByteS_eq]; exact h)

/-- spec.l01Hash (60) -/
def spec_l01Hash (C : Comb) (x0 : Int) (x1 : Sl) : C.St :=
  C.new ty_impl_Key (.agg (Array.replicate 32 (.int .u8 0))) fun b4 =>
  C.call n_spec_l01Start [(.int .u8 x0)] [.agg] fun r6 =>
  C.call n_spec_l01End [(.agg r6), (.slice x1.a x1.n x1.c), (.int .i64 (x1.n : Int))] [.agg] fun r10 =>
  C.st 32 (Addr.mk b4 0 none) (.agg r10) <|
  C.ld .agg 32 (Addr.mk b4 0 none) fun z4 =>
  C.ret (.agg z4)
theorem spec_l01Hash_eq (C : Comb) (x0 : Int) (x1 : Sl) : fT C Try.prog { loop := [], join := [], anyOrder := [], pure := [] } n_spec_l01Hash [(.int .u8 x0), (.slice x1.a x1.n x1.c)] = spec_l01Hash C x0 x1 := by kernel_rfl
theorem spec_l01Hash_calls {R : Value → World → Prop} {w : World} (x0 : Int) (x1 : Sl) (h : (spec_l01Hash (real Try.prog R) x0 x1 : World → Prop) w) :
    Calls Try.prog n_spec_l01Hash [(.int .u8 x0), (.slice x1.a x1.n x1.c)].toArray w fun e w' => ∃ v, e = .returned v ∧ R v w' := fT_sound mixed { loop := [], join := [], anyOrder := [], pure := [] } (by rw [spec_l01Hash_eq]; exact h)

/-- laws.toByteS (61) -/
def laws_toByteS (C : Comb) (x0 : Sl) : C.St :=
  C.sem (Instr.makeSlice ty_sl_uint8 (.int .i64 (x0.n : Int)) (.int .i64 (x0.n : Int))) .slice fun y7 =>
  C.loop (TL [(.int .i64)]) (embL [(.int .i64)]) [(.int .i64 0)] fun s2 ct2 => C.any fun _ =>
  cond (decide (s2 < (x0.n : Int))) (
    C.ix x0.a x0.n 1 s2 fun p18 =>
    C.ld (.int .u8) 1 p18 fun v19 =>
    C.ix y7.a y7.n 1 s2 fun p20 =>
    C.st 1 p20 (.int .u8 v19) <|
    ct2 [(.int .i64 (IntKind.wrap .i64 (s2 + 1)))]
  ) (
    C.ret (.slice y7.a y7.n y7.c)
  )
theorem laws_toByteS_eq (C : Comb) (x0 : Sl) : fT C Try.prog { loop := [(3, [(4, (.int .i64))])], join := [], anyOrder := [], pure := [] } n_laws_toByteS [(.slice x0.a x0.n x0.c)] = laws_toByteS C x0 := by kernel_rfl
theorem laws_toByteS_calls {R : Value → World → Prop} {w : World} (x0 : Sl) (h : (laws_toByteS (real Try.prog R) x0 : World → Prop) w) :
    Calls Try.prog n_laws_toByteS [(.slice x0.a x0.n x0.c)].toArray w fun e w' => ∃ v, e = .returned v ∧ R v w' := fT_sound mixed { loop := [(3, [(4, (.int .i64))])], join := [], anyOrder := [], pure := [] } (by rw [laws_toByteS_eq]; exact h)

/-- slices.ContainsFunc[[]impl.Blob,impl.Blob] (62) -/
def slices_ContainsFunc_sl_impl_Blob_impl_Blob (C : Comb) (x0 : Sl) (x1 : Value) : C.St :=
  C.call n_slices_IndexFunc_sl_impl_Blob_impl_Blob [(.slice x0.a x0.n x0.c), x1] [(.int .i64)] fun r7 =>
  C.ret (.bool (decide (r7 ≥ 0)))
theorem slices_ContainsFunc_sl_impl_Blob_impl_Blob_eq (C : Comb) (x0 : Sl) (x1 : Value) : fT C Try.prog { loop := [], join := [], anyOrder := [], pure := [] } n_slices_ContainsFunc_sl_impl_Blob_impl_Blob [(.slice x0.a x0.n x0.c), x1] = slices_ContainsFunc_sl_impl_Blob_impl_Blob C x0 x1 := by kernel_rfl
theorem slices_ContainsFunc_sl_impl_Blob_impl_Blob_calls {R : Value → World → Prop} {w : World} (x0 : Sl) (x1 : Value) (h : (slices_ContainsFunc_sl_impl_Blob_impl_Blob (real Try.prog R) x0 x1 : World → Prop) w) :
    Calls Try.prog n_slices_ContainsFunc_sl_impl_Blob_impl_Blob [(.slice x0.a x0.n x0.c), x1].toArray w fun e w' => ∃ v, e = .returned v ∧ R v w' := fT_sound mixed { loop := [], join := [], anyOrder := [], pure := [] } (by rw [slices_ContainsFunc_sl_impl_Blob_impl_Blob_eq]; exact h)

/-- impl.ValidStore$1 (63) -/
def impl_ValidStore_1 (C : Comb) (x0 : Array Value) : C.St :=
  C.new ty_impl_Blob (.agg x0) fun b1 =>
  C.ld .agg 2 (Addr.mk b1 0 none) fun v3 =>
  C.call n_impl_ValidBlob [(.agg v3)] [.bool] fun r4 =>
  C.ret (.bool (!r4))
theorem impl_ValidStore_1_eq (C : Comb) (x0 : Array Value) : fT C Try.prog { loop := [], join := [], anyOrder := [], pure := [] } n_impl_ValidStore_1 [(.agg x0)] = impl_ValidStore_1 C x0 := by kernel_rfl
theorem impl_ValidStore_1_calls {R : Value → World → Prop} {w : World} (x0 : Array Value) (h : (impl_ValidStore_1 (real Try.prog R) x0 : World → Prop) w) :
    Calls Try.prog n_impl_ValidStore_1 [(.agg x0)].toArray w fun e w' => ∃ v, e = .returned v ∧ R v w' := fT_sound mixed { loop := [], join := [], anyOrder := [], pure := [] } (by rw [impl_ValidStore_1_eq]; exact h)

/-- impl.ValidBlob (64) -/
def impl_ValidBlob (C : Comb) (x0 : Array Value) : C.St :=
  C.new ty_impl_Blob (.agg x0) fun b1 =>
  C.ld .slice 1 ((Addr.mk b1 0 none).add 1) fun v4 =>
  C.ret (.bool (decide ((v4.n : Int) ≤ 1024)))
theorem impl_ValidBlob_eq (C : Comb) (x0 : Array Value) : fT C Try.prog { loop := [], join := [], anyOrder := [], pure := [] } n_impl_ValidBlob [(.agg x0)] = impl_ValidBlob C x0 := by kernel_rfl
theorem impl_ValidBlob_calls {R : Value → World → Prop} {w : World} (x0 : Array Value) (h : (impl_ValidBlob (real Try.prog R) x0 : World → Prop) w) :
    Calls Try.prog n_impl_ValidBlob [(.agg x0)].toArray w fun e w' => ∃ v, e = .returned v ∧ R v w' := fT_sound mixed { loop := [], join := [], anyOrder := [], pure := [] } (by rw [impl_ValidBlob_eq]; exact h)

/-- impl.sorted (65) -/
def impl_sorted (C : Comb) (x0 : Sl) : C.St :=
  C.call n_slices_Clone_sl_impl_Key_impl_Key [(.slice x0.a x0.n x0.c)] [.slice] fun r5 =>
  C.call n_slices_SortFunc_sl_impl_Key_impl_Key [(.slice r5.a r5.n r5.c), (.func (.func n_impl_compareKeys) #[] #[])] [] fun r7 =>
  C.call n_slices_Compact_sl_impl_Key_impl_Key [(.slice r5.a r5.n r5.c)] [.slice] fun r9 =>
  C.ret (.slice r9.a r9.n r9.c)
theorem impl_sorted_eq (C : Comb) (x0 : Sl) : fT C Try.prog { loop := [], join := [], anyOrder := [], pure := [] } n_impl_sorted [(.slice x0.a x0.n x0.c)] = impl_sorted C x0 := by kernel_rfl
theorem impl_sorted_calls {R : Value → World → Prop} {w : World} (x0 : Sl) (h : (impl_sorted (real Try.prog R) x0 : World → Prop) w) :
    Calls Try.prog n_impl_sorted [(.slice x0.a x0.n x0.c)].toArray w fun e w' => ∃ v, e = .returned v ∧ R v w' := fT_sound mixed { loop := [], join := [], anyOrder := [], pure := [] } (by rw [impl_sorted_eq]; exact h)

/-- slices.IsSortedFunc[[]impl.Key,impl.Key] (66) -/
def slices_IsSortedFunc_sl_impl_Key_impl_Key (C : Comb) (x0 : Sl) (x1 : Value) : C.St :=
  C.loop (TL [(.int .i64)]) (embL [(.int .i64)]) [(.int .i64 (IntKind.wrap .i64 ((x0.n : Int) - 1)))] fun s1 ct1 => C.any fun _ =>
  cond (decide (s1 > 0)) (
    C.draw <|
    C.ix x0.a x0.n 32 s1 fun p16 =>
    C.ld .agg 32 p16 fun v17 =>
    C.ix x0.a x0.n 32 (IntKind.wrap .i64 (s1 - 1)) fun p21 =>
    C.ld .agg 32 p21 fun v22 =>
    C.callV x1 [(.agg v17), (.agg v22)] [(.int .i64)] fun r23 =>
    cond (decide (r23 < 0)) (
      C.ret (.bool false)
    ) (
      ct1 [(.int .i64 (IntKind.wrap .i64 (s1 - 1)))]
    )
  ) (
    C.ret (.bool true)
  )
theorem slices_IsSortedFunc_sl_impl_Key_impl_Key_eq (C : Comb) (x0 : Sl) (x1 : Value) : fT C Try.prog { loop := [(2, [(5, (.int .i64))])], join := [], anyOrder := [4], pure := [] } n_slices_IsSortedFunc_sl_impl_Key_impl_Key [(.slice x0.a x0.n x0.c), x1] = slices_IsSortedFunc_sl_impl_Key_impl_Key C x0 x1 := by kernel_rfl
theorem slices_IsSortedFunc_sl_impl_Key_impl_Key_calls {R : Value → World → Prop} {w : World} (x0 : Sl) (x1 : Value) (h : (slices_IsSortedFunc_sl_impl_Key_impl_Key (real Try.prog R) x0 x1 : World → Prop) w) :
    Calls Try.prog n_slices_IsSortedFunc_sl_impl_Key_impl_Key [(.slice x0.a x0.n x0.c), x1].toArray w fun e w' => ∃ v, e = .returned v ∧ R v w' := fT_sound mixed { loop := [(2, [(5, (.int .i64))])], join := [], anyOrder := [4], pure := [] } (by rw [slices_IsSortedFunc_sl_impl_Key_impl_Key_eq]; exact h)

/-- impl.compareKeys (67) -/
def impl_compareKeys (C : Comb) (x0 : Array Value) (x1 : Array Value) : C.St :=
  C.new ty_impl_Key (.agg x0) fun b2 =>
  C.new ty_impl_Key (.agg x1) fun b3 =>
  C.draw <|
  C.sl (some (Addr.mk b2 0 none)) 32 32 1 none none none fun y5 =>
  C.sl (some (Addr.mk b3 0 none)) 32 32 1 none none none fun y6 =>
  C.callQ n_slices_Compare_sl_byte_byte [(.slice y5.a y5.n y5.c), (.slice y6.a y6.n y6.c)] [(.int .i64)] fun r7 =>
  C.ret (.int .i64 r7)
theorem impl_compareKeys_eq (C : Comb) (x0 : Array Value) (x1 : Array Value) : fT C Try.prog { loop := [], join := [], anyOrder := [], pure := [] } n_impl_compareKeys [(.agg x0), (.agg x1)] = impl_compareKeys C x0 x1 := by kernel_rfl
theorem impl_compareKeys_calls {R : Value → World → Prop} {w : World} (x0 : Array Value) (x1 : Array Value) (h : (impl_compareKeys (real Try.prog R) x0 x1 : World → Prop) w) :
    Calls Try.prog n_impl_compareKeys [(.agg x0), (.agg x1)].toArray w fun e w' => ∃ v, e = .returned v ∧ R v w' := fT_sound mixed { loop := [], join := [], anyOrder := [], pure := [] } (by rw [impl_compareKeys_eq]; exact h)

/-- (impl.Blob).key (68) -/
def impl_Blob_key (C : Comb) (x0 : Array Value) : C.St :=
  C.new ty_impl_Blob (.agg x0) fun b1 =>
  C.new ty_impl_Key (.agg (Array.replicate 32 (.int .u8 0))) fun b2 =>
  C.ld (.int .u8) 1 ((Addr.mk b1 0 none).add 0) fun v4 =>
  C.ld .slice 1 ((Addr.mk b1 0 none).add 1) fun v6 =>
  C.call n_impl_hash [(.int .u8 v4), (.slice v6.a v6.n v6.c)] [.agg] fun r7 =>
  C.st 32 (Addr.mk b2 0 none) (.agg r7) <|
  C.ld .agg 32 (Addr.mk b2 0 none) fun z6 =>
  C.ret (.agg z6)
theorem impl_Blob_key_eq (C : Comb) (x0 : Array Value) : fT C Try.prog { loop := [], join := [], anyOrder := [], pure := [] } n_impl_Blob_key [(.agg x0)] = impl_Blob_key C x0 := by kernel_rfl
theorem impl_Blob_key_calls {R : Value → World → Prop} {w : World} (x0 : Array Value) (h : (impl_Blob_key (real Try.prog R) x0 : World → Prop) w) :
    Calls Try.prog n_impl_Blob_key [(.agg x0)].toArray w fun e w' => ∃ v, e = .returned v ∧ R v w' := fT_sound mixed { loop := [], join := [], anyOrder := [], pure := [] } (by rw [impl_Blob_key_eq]; exact h)

/-- slices.BinarySearchFunc[[]impl.Key,impl.Key,impl.Key] (69) -/
def slices_BinarySearchFunc_sl_impl_Key_impl_Key_impl_Key (C : Comb) (x0 : Sl) (x1 : Array Value) (x2 : Value) : C.St :=
  C.new ty_impl_Key (.agg x1) fun b4 =>
  C.loop (TL [(.int .i64), (.int .i64)]) (embL [(.int .i64), (.int .i64)]) [(.int .i64 0), (.int .i64 (x0.n : Int))] fun s2 ct2 => C.any fun _ =>
  cond (decide (s2.1 < s2.2)) (
    C.draw <|
    C.ix x0.a x0.n 32 (IntKind.wrap .i64 ((Int.fdiv (IntKind.wrap .u64 ((IntKind.wrap .i64 (s2.1 + s2.2)))) (2 ^ 1)))) fun p27 =>
    C.ld .agg 32 p27 fun v28 =>
    C.ld .agg 32 (Addr.mk b4 0 none) fun v29 =>
    C.callV x2 [(.agg v28), (.agg v29)] [(.int .i64)] fun r30 =>
    cond (decide (r30 < 0)) (
      ct2 [(.int .i64 (IntKind.wrap .i64 ((IntKind.wrap .i64 ((Int.fdiv (IntKind.wrap .u64 ((IntKind.wrap .i64 (s2.1 + s2.2)))) (2 ^ 1)))) + 1))), (.int .i64 s2.2)]
    ) (
      ct2 [(.int .i64 s2.1), (.int .i64 (IntKind.wrap .i64 ((Int.fdiv (IntKind.wrap .u64 ((IntKind.wrap .i64 (s2.1 + s2.2)))) (2 ^ 1)))))]
    )
  ) (
    C.draw <|
    cond (decide (s2.1 < (x0.n : Int))) (
      C.ix x0.a x0.n 32 s2.1 fun p43 =>
      C.all [
        (C.ld .agg 32 p43 fun v44 =>
         C.ld .agg 32 (Addr.mk b4 0 none) fun v45 =>
         C.callV x2 [(.agg v44), (.agg v45)] [(.int .i64)] fun r46 =>
         C.ret (.tuple #[(.int .i64 s2.1), (.bool (r46 == 0))])),
        (C.ld .agg 32 (Addr.mk b4 0 none) fun v45 =>
         C.ld .agg 32 p43 fun v44 =>
         C.callV x2 [(.agg v44), (.agg v45)] [(.int .i64)] fun r46 =>
         C.ret (.tuple #[(.int .i64 s2.1), (.bool (r46 == 0))]))]
    ) (
      C.all [
        (C.ret (.tuple #[(.int .i64 s2.1), (.bool false)])),
        (C.ret (.tuple #[(.int .i64 s2.1), (.bool false)]))]
    )
  )
theorem slices_BinarySearchFunc_sl_impl_Key_impl_Key_impl_Key_eq (C : Comb) (x0 : Sl) (x1 : Array Value) (x2 : Value) : fT C Try.prog { loop := [(3, [(9, (.int .i64)), (10, (.int .i64))])], join := [], anyOrder := [5, 8], pure := [] } n_slices_BinarySearchFunc_sl_impl_Key_impl_Key_impl_Key [(.slice x0.a x0.n x0.c), (.agg x1), x2] = slices_BinarySearchFunc_sl_impl_Key_impl_Key_impl_Key C x0 x1 x2 := by kernel_rfl
theorem slices_BinarySearchFunc_sl_impl_Key_impl_Key_impl_Key_calls {R : Value → World → Prop} {w : World} (x0 : Sl) (x1 : Array Value) (x2 : Value) (h : (slices_BinarySearchFunc_sl_impl_Key_impl_Key_impl_Key (real Try.prog R) x0 x1 x2 : World → Prop) w) :
    Calls Try.prog n_slices_BinarySearchFunc_sl_impl_Key_impl_Key_impl_Key [(.slice x0.a x0.n x0.c), (.agg x1), x2].toArray w fun e w' => ∃ v, e = .returned v ∧ R v w' := fT_sound mixed { loop := [(3, [(9, (.int .i64)), (10, (.int .i64))])], join := [], anyOrder := [5, 8], pure := [] } (by rw [slices_BinarySearchFunc_sl_impl_Key_impl_Key_impl_Key_eq]; exact h)

/-- spec.l01End (70) -/
def spec_l01End (C : Comb) (x0 : Array Value) (x1 : Sl) (x2 : Int) : C.St :=
  C.new ty_arr8_uint32 (.agg x0) fun b3 =>
  C.new ty_impl_Key (.agg (Array.replicate 32 (.int .u8 0))) fun b6 =>
  C.call n_spec_l01Padded [(.slice x1.a x1.n x1.c), (.int .i64 x2)] [.slice] fun r13 =>
  C.loop (TL [(.int .i64)]) (embL [(.int .i64)]) [(.int .i64 0)] fun s4 ct4 => C.any fun _ =>
  cond (decide (s4 < (r13.n : Int))) (
    C.draw <|
    C.ld .agg 8 (Addr.mk b3 0 none) fun v20 =>
    C.call n_spec_l01Block [(.slice r13.a r13.n r13.c), (.int .i64 s4)] [.agg] fun r23 =>
    C.chk [⟨0, 8, (Addr.mk b3 0 none), .agg, v20⟩] <|
    C.call n_spec_l01Mix [(.agg v20), (.agg r23)] [.agg] fun r24 =>
    C.st 8 (Addr.mk b3 0 none) (.agg r24) <|
    ct4 [(.int .i64 (IntKind.wrap .i64 (s4 + 32)))]
  ) (
    C.new ty_impl_Key (.agg (Array.replicate 32 (.int .u8 0))) fun b9 =>
    C.st 32 (Addr.mk b9 0 none) (.agg (Array.replicate 32 (.int .u8 0))) <|
    C.loop (TL [(.int .i64)]) (embL [(.int .i64)]) [(.int .i64 0)] fun s9 ct9 => C.any fun _ =>
    cond (decide (s9 < 32)) (
      C.ix (some (Addr.mk b3 0 none)) 8 1 (IntKind.wrap .i64 (Int.tdiv s9 4)) fun p33 =>
      C.ld (.int .u32) 1 p33 fun v34 =>
      C.pur (eqB .shr ty_uint32 (.tmp 34) (.tmp 38) (.int .u32 v34) (.int .u64 (IntKind.wrap .u64 ((IntKind.wrap .i64 (8 * (Int.tmod s9 4))))))) (.int .u32) fun y39 =>
      C.ix (some (Addr.mk b9 0 none)) 32 1 s9 fun p41 =>
      C.st 1 p41 (.int .u8 (IntKind.wrap .u8 (y39))) <|
      ct9 [(.int .i64 (IntKind.wrap .i64 (s9 + 1)))]
    ) (
      C.ld .agg 32 (Addr.mk b9 0 none) fun v42 =>
      C.st 32 (Addr.mk b6 0 none) (.agg v42) <|
      C.ld .agg 32 (Addr.mk b6 0 none) fun z15 =>
      C.ret (.agg z15)
    )
  )
theorem spec_l01End_eq (C : Comb) (x0 : Array Value) (x1 : Sl) (x2 : Int) : fT C Try.prog { loop := [(3, [(8, (.int .i64))]), (8, [(10, (.int .i64))])], join := [], anyOrder := [5], pure := [] } n_spec_l01End [(.agg x0), (.slice x1.a x1.n x1.c), (.int .i64 x2)] = spec_l01End C x0 x1 x2 := by kernel_rfl
theorem spec_l01End_calls {R : Value → World → Prop} {w : World} (x0 : Array Value) (x1 : Sl) (x2 : Int) (h : (spec_l01End (real Try.prog R) x0 x1 x2 : World → Prop) w) :
    Calls Try.prog n_spec_l01End [(.agg x0), (.slice x1.a x1.n x1.c), (.int .i64 x2)].toArray w fun e w' => ∃ v, e = .returned v ∧ R v w' := fT_sound mixed { loop := [(3, [(8, (.int .i64))]), (8, [(10, (.int .i64))])], join := [], anyOrder := [5], pure := [] } (by rw [spec_l01End_eq]; exact h)

/-- spec.l01Start (71) -/
def spec_l01Start (C : Comb) (x0 : Int) : C.St :=
  C.new ty_arr8_uint32 (.agg (Array.replicate 8 (.int .u32 0))) fun b2 =>
  C.new ty_arr8_uint32 (.agg (Array.replicate 8 (.int .u32 0))) fun b3 =>
  C.st 8 (Addr.mk b3 0 none) (.agg (Array.replicate 8 (.int .u32 0))) <|
  C.loop (TL [(.int .i64)]) (embL [(.int .i64)]) [(.int .i64 0)] fun s3 ct3 => C.any fun _ =>
  cond (decide (s3 < 8)) (
    C.ix (some (Addr.mk b3 0 none)) 8 1 s3 fun p18 =>
    C.st 1 p18 (.int .u32 (IntKind.wrap .u32 ((IntKind.wrap .u32 (16777619 * (IntKind.wrap .u32 ((IntKind.wrap .i64 (s3 + 1)))))) + (IntKind.wrap .u32 (x0))))) <|
    ct3 [(.int .i64 (IntKind.wrap .i64 (s3 + 1)))]
  ) (
    C.ld .agg 8 (Addr.mk b3 0 none) fun v19 =>
    C.st 8 (Addr.mk b2 0 none) (.agg v19) <|
    C.ld .agg 8 (Addr.mk b2 0 none) fun z6 =>
    C.ret (.agg z6)
  )
theorem spec_l01Start_eq (C : Comb) (x0 : Int) : fT C Try.prog { loop := [(3, [(4, (.int .i64))])], join := [], anyOrder := [], pure := [] } n_spec_l01Start [(.int .u8 x0)] = spec_l01Start C x0 := by kernel_rfl
theorem spec_l01Start_calls {R : Value → World → Prop} {w : World} (x0 : Int) (h : (spec_l01Start (real Try.prog R) x0 : World → Prop) w) :
    Calls Try.prog n_spec_l01Start [(.int .u8 x0)].toArray w fun e w' => ∃ v, e = .returned v ∧ R v w' := fT_sound mixed { loop := [(3, [(4, (.int .i64))])], join := [], anyOrder := [], pure := [] } (by rw [spec_l01Start_eq]; exact h)

/-- slices.IndexFunc[[]impl.Blob,impl.Blob] (72) -/
def slices_IndexFunc_sl_impl_Blob_impl_Blob (C : Comb) (x0 : Sl) (x1 : Value) : C.St :=
  C.loop (TL [(.int .i64)]) (embL [(.int .i64)]) [(.int .i64 0)] fun s1 ct1 => C.any fun _ =>
  cond (decide (s1 < (x0.n : Int))) (
    C.ix x0.a x0.n 2 s1 fun p14 =>
    C.ld .agg 2 p14 fun v15 =>
    C.callV x1 [(.agg v15)] [.bool] fun r16 =>
    cond r16 (
      C.ret (.int .i64 s1)
    ) (
      ct1 [(.int .i64 (IntKind.wrap .i64 (s1 + 1)))]
    )
  ) (
    C.ret (.int .i64 (-1))
  )
theorem slices_IndexFunc_sl_impl_Blob_impl_Blob_eq (C : Comb) (x0 : Sl) (x1 : Value) : fT C Try.prog { loop := [(2, [(8, (.int .i64))])], join := [], anyOrder := [], pure := [] } n_slices_IndexFunc_sl_impl_Blob_impl_Blob [(.slice x0.a x0.n x0.c), x1] = slices_IndexFunc_sl_impl_Blob_impl_Blob C x0 x1 := by kernel_rfl
theorem slices_IndexFunc_sl_impl_Blob_impl_Blob_calls {R : Value → World → Prop} {w : World} (x0 : Sl) (x1 : Value) (h : (slices_IndexFunc_sl_impl_Blob_impl_Blob (real Try.prog R) x0 x1 : World → Prop) w) :
    Calls Try.prog n_slices_IndexFunc_sl_impl_Blob_impl_Blob [(.slice x0.a x0.n x0.c), x1].toArray w fun e w' => ∃ v, e = .returned v ∧ R v w' := fT_sound mixed { loop := [(2, [(8, (.int .i64))])], join := [], anyOrder := [], pure := [] } (by rw [slices_IndexFunc_sl_impl_Blob_impl_Blob_eq]; exact h)

/-- slices.Clone[[]impl.Key,impl.Key] (73) -/
def slices_Clone_sl_impl_Key_impl_Key (C : Comb) (x0 : Sl) : C.St :=
  C.pur (eqB .eql ty_sl_impl_Key (.tmp 3) (.const (.slice none 0 0)) (.slice x0.a x0.n x0.c) (.slice none 0 0)) .bool fun y4 =>
  cond y4 (
    C.ret (.slice none 0 0)
  ) (
    C.sem (Instr.buildSlice ty_sl_impl_Key 0 #[]) .slice fun y5 =>
    C.sem (Builtin.append_ #[ty_sl_impl_Key, ty_sl_impl_Key] ty_sl_impl_Key #[(.slice y5.a y5.n y5.c), (.slice x0.a x0.n x0.c)]) .slice fun y7 =>
    C.ret (.slice y7.a y7.n y7.c)
  )
theorem slices_Clone_sl_impl_Key_impl_Key_eq (C : Comb) (x0 : Sl) : fT C Try.prog { loop := [], join := [], anyOrder := [], pure := [] } n_slices_Clone_sl_impl_Key_impl_Key [(.slice x0.a x0.n x0.c)] = slices_Clone_sl_impl_Key_impl_Key C x0 := by kernel_rfl
theorem slices_Clone_sl_impl_Key_impl_Key_calls {R : Value → World → Prop} {w : World} (x0 : Sl) (h : (slices_Clone_sl_impl_Key_impl_Key (real Try.prog R) x0 : World → Prop) w) :
    Calls Try.prog n_slices_Clone_sl_impl_Key_impl_Key [(.slice x0.a x0.n x0.c)].toArray w fun e w' => ∃ v, e = .returned v ∧ R v w' := fT_sound mixed { loop := [], join := [], anyOrder := [], pure := [] } (by rw [slices_Clone_sl_impl_Key_impl_Key_eq]; exact h)

/-- slices.Compact[[]impl.Key,impl.Key] (75) -/
def slices_Compact_sl_impl_Key_impl_Key (C : Comb) (x0 : Sl) : C.St :=
  cond (decide ((x0.n : Int) < 2)) (
    C.ret (.slice x0.a x0.n x0.c)
  ) (
    C.loop (TL [(.int .i64)]) (embL [(.int .i64)]) [(.int .i64 1)] fun s1 ct1 => C.any fun _ =>
    cond (decide (s1 < (x0.n : Int))) (
      C.draw <|
      C.ix x0.a x0.n 32 s1 fun p18 =>
      C.ld .agg 32 p18 fun v19 =>
      C.ix x0.a x0.n 32 (IntKind.wrap .i64 (s1 - 1)) fun p23 =>
      C.ld .agg 32 p23 fun v24 =>
      C.pur (eqB .eql ty_impl_Key (.tmp 19) (.tmp 24) (.agg v19) (.agg v24)) .bool fun y25 =>
      cond y25 (
        C.sl x0.a x0.n x0.c 32 (some s1) none none fun y28 =>
        C.loop (TL [(.int .i64), (.int .i64)]) (embL [(.int .i64), (.int .i64)]) [(.int .i64 s1), (.int .i64 1)] fun s8 ct8 => C.any fun _ =>
        cond (decide (s8.2 < (y28.n : Int))) (
          C.draw <|
          C.ix y28.a y28.n 32 s8.2 fun p37 =>
          C.ld .agg 32 p37 fun v38 =>
          C.ix y28.a y28.n 32 (IntKind.wrap .i64 (s8.2 - 1)) fun p42 =>
          C.ld .agg 32 p42 fun v43 =>
          C.pur (eqB .neq ty_impl_Key (.tmp 38) (.tmp 43) (.agg v38) (.agg v43)) .bool fun y44 =>
          cond y44 (
            C.ix y28.a y28.n 32 s8.2 fun p49 =>
            C.ld .agg 32 p49 fun v50 =>
            C.ix x0.a x0.n 32 s8.1 fun p51 =>
            C.st 32 p51 (.agg v50) <|
            ct8 [(.int .i64 (IntKind.wrap .i64 (s8.1 + 1))), (.int .i64 (IntKind.wrap .i64 (s8.2 + 1)))]
          ) (
            ct8 [(.int .i64 s8.1), (.int .i64 (IntKind.wrap .i64 (s8.2 + 1)))]
          )
        ) (
          C.sl x0.a x0.n x0.c 32 (some s8.1) none none fun y56 =>
          C.sem (Builtin.clear_ #[ty_sl_impl_Key] ty_x #[(.slice y56.a y56.n y56.c)]) .val fun yq18 =>
          C.sl x0.a x0.n x0.c 32 none (some s8.1) none fun y59 =>
          C.ret (.slice y59.a y59.n y59.c)
        )
      ) (
        ct1 [(.int .i64 (IntKind.wrap .i64 (s1 + 1)))]
      )
    ) (
      C.ret (.slice x0.a x0.n x0.c)
    )
  )
theorem slices_Compact_sl_impl_Key_impl_Key_eq (C : Comb) (x0 : Sl) : fT C Try.prog { loop := [(4, [(3, (.int .i64))]), (9, [(3, (.int .i64)), (5, (.int .i64))])], join := [], anyOrder := [], pure := [] } n_slices_Compact_sl_impl_Key_impl_Key [(.slice x0.a x0.n x0.c)] = slices_Compact_sl_impl_Key_impl_Key C x0 := by kernel_rfl
theorem slices_Compact_sl_impl_Key_impl_Key_calls {R : Value → World → Prop} {w : World} (x0 : Sl) (h : (slices_Compact_sl_impl_Key_impl_Key (real Try.prog R) x0 : World → Prop) w) :
    Calls Try.prog n_slices_Compact_sl_impl_Key_impl_Key [(.slice x0.a x0.n x0.c)].toArray w fun e w' => ∃ v, e = .returned v ∧ R v w' := fT_sound mixed { loop := [(4, [(3, (.int .i64))]), (9, [(3, (.int .i64)), (5, (.int .i64))])], join := [], anyOrder := [], pure := [] } (by rw [slices_Compact_sl_impl_Key_impl_Key_eq]; exact h)

/-- slices.Compare[[]byte,byte] (76) -/
def slices_Compare_sl_byte_byte (C : Comb) (x0 : Sl) (x1 : Sl) : C.St :=
  C.loop (TL [(.int .i64)]) (embL [(.int .i64)]) [(.int .i64 0)] fun s1 ct1 => C.any fun _ =>
  cond (decide (s1 < (x0.n : Int))) (
    C.ix x0.a x0.n 1 s1 fun p14 =>
    C.ld (.int .u8) 1 p14 fun v15 =>
    cond (decide (s1 ≥ (x1.n : Int))) (
      C.ret (.int .i64 1)
    ) (
      C.ix x1.a x1.n 1 s1 fun p22 =>
      C.ld (.int .u8) 1 p22 fun v23 =>
      C.call n_cmp_Compare_byte [(.int .u8 v15), (.int .u8 v23)] [(.int .i64)] fun r26 =>
      cond (r26 != 0) (
        C.ret (.int .i64 r26)
      ) (
        ct1 [(.int .i64 (IntKind.wrap .i64 (s1 + 1)))]
      )
    )
  ) (
    cond (decide ((x0.n : Int) < (x1.n : Int))) (
      C.ret (.int .i64 (-1))
    ) (
      C.ret (.int .i64 0)
    )
  )
theorem slices_Compare_sl_byte_byte_eq (C : Comb) (x0 : Sl) (x1 : Sl) : fT C Try.prog { loop := [(2, [(11, (.int .i64))])], join := [], anyOrder := [], pure := [] } n_slices_Compare_sl_byte_byte [(.slice x0.a x0.n x0.c), (.slice x1.a x1.n x1.c)] = slices_Compare_sl_byte_byte C x0 x1 := by kernel_rfl
theorem slices_Compare_sl_byte_byte_calls {R : Value → World → Prop} {w : World} (x0 : Sl) (x1 : Sl) (h : (slices_Compare_sl_byte_byte (real Try.prog R) x0 x1 : World → Prop) w) :
    Calls Try.prog n_slices_Compare_sl_byte_byte [(.slice x0.a x0.n x0.c), (.slice x1.a x1.n x1.c)].toArray w fun e w' => ∃ v, e = .returned v ∧ R v w' := fT_sound mixed { loop := [(2, [(11, (.int .i64))])], join := [], anyOrder := [], pure := [] } (by rw [slices_Compare_sl_byte_byte_eq]; exact h)

/-- impl.hash (77) -/
def impl_hash (C : Comb) (x0 : Int) (x1 : Sl) : C.St :=
  C.new ty_impl_Key (.agg (Array.replicate 32 (.int .u8 0))) fun b4 =>
  C.call n_impl_size_byte [(.slice x1.a x1.n x1.c)] [(.int .i64)] fun r10 =>
  C.call n_impl_padding [(.int .i64 r10)] [.slice] fun r11 =>
  C.sem (Instr.buildSlice ty_sl_sl_uint8 2 #[(0, (.slice x1.a x1.n x1.c)), (1, (.slice r11.a r11.n r11.c))]) .slice fun y12 =>
  C.call n_slices_Concat_sl_byte_byte [(.slice y12.a y12.n y12.c)] [.slice] fun r13 =>
  C.call n_impl_blocks [(.slice r13.a r13.n r13.c)] [.slice, .slice] fun r14 =>
  C.call n_impl_StartState [(.int .u8 x0)] [.agg] fun r18 =>
  C.call n_impl_mixed [(.agg r18), (.slice r14.1.a r14.1.n r14.1.c)] [.agg] fun r20 =>
  C.call n_impl_keyOf [(.agg r20)] [.agg] fun r21 =>
  C.st 32 (Addr.mk b4 0 none) (.agg r21) <|
  C.ld .agg 32 (Addr.mk b4 0 none) fun z10 =>
  C.ret (.agg z10)
theorem impl_hash_eq (C : Comb) (x0 : Int) (x1 : Sl) : fT C Try.prog { loop := [], join := [], anyOrder := [], pure := [] } n_impl_hash [(.int .u8 x0), (.slice x1.a x1.n x1.c)] = impl_hash C x0 x1 := by kernel_rfl
theorem impl_hash_calls {R : Value → World → Prop} {w : World} (x0 : Int) (x1 : Sl) (h : (impl_hash (real Try.prog R) x0 x1 : World → Prop) w) :
    Calls Try.prog n_impl_hash [(.int .u8 x0), (.slice x1.a x1.n x1.c)].toArray w fun e w' => ∃ v, e = .returned v ∧ R v w' := fT_sound mixed { loop := [], join := [], anyOrder := [], pure := [] } (by rw [impl_hash_eq]; exact h)

/-- spec.l01Padded (78) -/
def spec_l01Padded (C : Comb) (x0 : Sl) (x1 : Int) : C.St :=
  C.sem (Instr.buildSlice ty_sl_uint8 0 #[]) .slice fun y7 =>
  C.sem (Builtin.append_ #[ty_sl_uint8, ty_sl_uint8] ty_sl_uint8 #[(.slice y7.a y7.n y7.c), (.slice x0.a x0.n x0.c)]) .slice fun y9 =>
  C.sem (Instr.buildSlice ty_sl_uint8 1 #[(0, (.int .u8 128))]) .slice fun y10 =>
  C.sem (Builtin.append_ #[ty_sl_uint8, ty_sl_uint8] ty_sl_uint8 #[(.slice y9.a y9.n y9.c), (.slice y10.a y10.n y10.c)]) .slice fun y11 =>
  C.loop (TL [.slice]) (embL [.slice]) [(.slice y11.a y11.n y11.c)] fun s5 ct5 => C.any fun _ =>
  cond ((Int.tmod (s5.n : Int) 32) != 24) (
    C.sem (Instr.buildSlice ty_sl_uint8 1 #[(0, (.int .u8 0))]) .slice fun y17 =>
    C.sem (Builtin.append_ #[ty_sl_uint8, ty_sl_uint8] ty_sl_uint8 #[(.slice s5.a s5.n s5.c), (.slice y17.a y17.n y17.c)]) .slice fun y18 =>
    ct5 [(.slice y18.a y18.n y18.c)]
  ) (
    C.loop (TL [(.int .i64), .slice, (.int .i64)]) (embL [(.int .i64), .slice, (.int .i64)]) [(.int .i64 x1), (.slice s5.a s5.n s5.c), (.int .i64 0)] fun s8 ct8 => C.any fun _ =>
    cond (decide (s8.2.2 < 8)) (
      C.sem (Instr.buildSlice ty_sl_uint8 1 #[(0, (.int .u8 (IntKind.wrap .u8 ((Int.tmod s8.1 256)))))]) .slice fun y27 =>
      C.sem (Builtin.append_ #[ty_sl_uint8, ty_sl_uint8] ty_sl_uint8 #[(.slice s8.2.1.a s8.2.1.n s8.2.1.c), (.slice y27.a y27.n y27.c)]) .slice fun y28 =>
      ct8 [(.int .i64 (IntKind.wrap .i64 (Int.tdiv s8.1 256))), (.slice y28.a y28.n y28.c), (.int .i64 (IntKind.wrap .i64 (s8.2.2 + 1)))]
    ) (
      C.ret (.slice s8.2.1.a s8.2.1.n s8.2.1.c)
    )
  )
theorem spec_l01Padded_eq (C : Comb) (x0 : Sl) (x1 : Int) : fT C Try.prog { loop := [(2, [(5, .slice)]), (5, [(1, (.int .i64)), (5, .slice), (6, (.int .i64))])], join := [], anyOrder := [], pure := [] } n_spec_l01Padded [(.slice x0.a x0.n x0.c), (.int .i64 x1)] = spec_l01Padded C x0 x1 := by kernel_rfl
theorem spec_l01Padded_calls {R : Value → World → Prop} {w : World} (x0 : Sl) (x1 : Int) (h : (spec_l01Padded (real Try.prog R) x0 x1 : World → Prop) w) :
    Calls Try.prog n_spec_l01Padded [(.slice x0.a x0.n x0.c), (.int .i64 x1)].toArray w fun e w' => ∃ v, e = .returned v ∧ R v w' := fT_sound mixed { loop := [(2, [(5, .slice)]), (5, [(1, (.int .i64)), (5, .slice), (6, (.int .i64))])], join := [], anyOrder := [], pure := [] } (by rw [spec_l01Padded_eq]; exact h)

/-- spec.l01Mix (79) -/
def spec_l01Mix (C : Comb) (x0 : Array Value) (x1 : Array Value) : C.St :=
  C.new ty_arr8_uint32 (.agg x0) fun b2 =>
  C.new ty_arr32_uint8 (.agg x1) fun b3 =>
  C.new ty_arr8_uint32 (.agg (Array.replicate 8 (.int .u32 0))) fun b4 =>
  C.new ty_arr8_uint32 (.agg (Array.replicate 8 (.int .u32 0))) fun b5 =>
  C.st 8 (Addr.mk b5 0 none) (.agg (Array.replicate 8 (.int .u32 0))) <|
  C.loop (TL [(.int .i64)]) (embL [(.int .i64)]) [(.int .i64 0)] fun s5 ct5 => C.any fun _ =>
  cond (decide (s5 < 8)) (
    C.loop (TL [(.int .i64)]) (embL [(.int .i64)]) [(.int .i64 3)] fun s6 ct6 => C.any fun _ =>
    cond (decide (s6 ≥ 0)) (
      C.draw <|
      C.ix (some (Addr.mk b5 0 none)) 8 1 s5 fun p25 =>
      C.ld (.int .u32) 1 p25 fun v26 =>
      C.ix (some (Addr.mk b3 0 none)) 32 1 (IntKind.wrap .i64 ((IntKind.wrap .i64 (4 * s5)) + s6)) fun p32 =>
      C.ld (.int .u8) 1 p32 fun v33 =>
      C.ix (some (Addr.mk b5 0 none)) 8 1 s5 fun p36 =>
      C.st 1 p36 (.int .u32 (bitsI .or .u32 (IntKind.wrap .u32 (v26 * 2 ^ 8)) (IntKind.wrap .u32 (v33)))) <|
      ct6 [(.int .i64 (IntKind.wrap .i64 (s6 - 1)))]
    ) (
      ct5 [(.int .i64 (IntKind.wrap .i64 (s5 + 1)))]
    )
  ) (
    C.ld .agg 8 (Addr.mk b2 0 none) fun v37 =>
    C.new ty_arr8_uint32 (.agg (Array.replicate 8 (.int .u32 0))) fun b8 =>
    C.st 8 (Addr.mk b8 0 none) (.agg v37) <|
    C.loop (TL [(.int .i64)]) (embL [(.int .i64)]) [(.int .i64 0)] fun s14 ct14 => C.any fun _ =>
    cond (decide (s14 < 12)) (
      C.loop (TL [(.int .i64)]) (embL [(.int .i64)]) [(.int .i64 0)] fun s15 ct15 => C.any fun _ =>
      cond (decide (s15 < 8)) (
        C.draw <|
        C.ix (some (Addr.mk b8 0 none)) 8 1 s15 fun p47 =>
        C.ld (.int .u32) 1 p47 fun v48 =>
        C.ix (some (Addr.mk b5 0 none)) 8 1 (Int.tmod (IntKind.wrap .i64 (s15 + (IntKind.wrap .i64 (3 * s14)))) 8) fun p54 =>
        C.ld (.int .u32) 1 p54 fun v55 =>
        C.draw <|
        C.callQ n_spec_l01Turn [(.int .u32 (IntKind.wrap .u32 ((IntKind.wrap .u32 (v48 + v55)) + (IntKind.wrap .u32 (2654435769 * (IntKind.wrap .u32 ((IntKind.wrap .i64 ((IntKind.wrap .i64 ((IntKind.wrap .i64 (8 * s14)) + s15)) + 1))))))))), (.int .u64 7)] [(.int .u32)] fun r66 =>
        C.ix (some (Addr.mk b8 0 none)) 8 1 (Int.tmod (IntKind.wrap .i64 (s15 + 1)) 8) fun p70 =>
        C.ld (.int .u32) 1 p70 fun v71 =>
        C.ix (some (Addr.mk b8 0 none)) 8 1 (Int.tmod (IntKind.wrap .i64 (s15 + 5)) 8) fun p78 =>
        C.ld (.int .u32) 1 p78 fun v79 =>
        C.call n_spec_l01Turn [(.int .u32 v79), (.int .u64 13)] [(.int .u32)] fun r80 =>
        C.ix (some (Addr.mk b8 0 none)) 8 1 s15 fun p82 =>
        C.st 1 p82 (.int .u32 (IntKind.wrap .u32 ((bitsI .xor .u32 r66 v71) + r80))) <|
        ct15 [(.int .i64 (IntKind.wrap .i64 (s15 + 1)))]
      ) (
        ct14 [(.int .i64 (IntKind.wrap .i64 (s14 + 1)))]
      )
    ) (
      C.loop (TL [(.int .i64)]) (embL [(.int .i64)]) [(.int .i64 0)] fun s27 ct27 => C.any fun _ =>
      cond (decide (s27 < 8)) (
        C.draw <|
        C.ix (some (Addr.mk b8 0 none)) 8 1 s27 fun p88 =>
        C.ld (.int .u32) 1 p88 fun v89 =>
        C.ix (some (Addr.mk b2 0 none)) 8 1 s27 fun p91 =>
        C.ld (.int .u32) 1 p91 fun v92 =>
        C.ix (some (Addr.mk b8 0 none)) 8 1 s27 fun p94 =>
        C.st 1 p94 (.int .u32 (bitsI .xor .u32 v89 v92)) <|
        ct27 [(.int .i64 (IntKind.wrap .i64 (s27 + 1)))]
      ) (
        C.ld .agg 8 (Addr.mk b8 0 none) fun v95 =>
        C.st 8 (Addr.mk b4 0 none) (.agg v95) <|
        C.ld .agg 8 (Addr.mk b4 0 none) fun z34 =>
        C.ret (.agg z34)
      )
    )
  )
theorem spec_l01Mix_eq (C : Comb) (x0 : Array Value) (x1 : Array Value) : fT C Try.prog { loop := [(3, [(6, (.int .i64))]), (6, [(7, (.int .i64))]), (11, [(9, (.int .i64))]), (14, [(10, (.int .i64))]), (20, [(13, (.int .i64))])], join := [], anyOrder := [8, 22], pure := [] } n_spec_l01Mix [(.agg x0), (.agg x1)] = spec_l01Mix C x0 x1 := by kernel_rfl
theorem spec_l01Mix_calls {R : Value → World → Prop} {w : World} (x0 : Array Value) (x1 : Array Value) (h : (spec_l01Mix (real Try.prog R) x0 x1 : World → Prop) w) :
    Calls Try.prog n_spec_l01Mix [(.agg x0), (.agg x1)].toArray w fun e w' => ∃ v, e = .returned v ∧ R v w' := fT_sound mixed { loop := [(3, [(6, (.int .i64))]), (6, [(7, (.int .i64))]), (11, [(9, (.int .i64))]), (14, [(10, (.int .i64))]), (20, [(13, (.int .i64))])], join := [], anyOrder := [8, 22], pure := [] } (by rw [spec_l01Mix_eq]; exact h)

/-- spec.l01Block (80) -/
def spec_l01Block (C : Comb) (x0 : Sl) (x1 : Int) : C.St :=
  C.new ty_arr32_uint8 (.agg (Array.replicate 32 (.int .u8 0))) fun b4 =>
  C.new ty_arr32_uint8 (.agg (Array.replicate 32 (.int .u8 0))) fun b5 =>
  C.st 32 (Addr.mk b5 0 none) (.agg (Array.replicate 32 (.int .u8 0))) <|
  C.loop (TL [(.int .i64)]) (embL [(.int .i64)]) [(.int .i64 0)] fun s3 ct3 => C.any fun _ =>
  cond (decide (s3 < 32)) (
    C.ix x0.a x0.n 1 (IntKind.wrap .i64 (x1 + s3)) fun p17 =>
    C.ld (.int .u8) 1 p17 fun v18 =>
    C.ix (some (Addr.mk b5 0 none)) 32 1 s3 fun p19 =>
    C.st 1 p19 (.int .u8 v18) <|
    ct3 [(.int .i64 (IntKind.wrap .i64 (s3 + 1)))]
  ) (
    C.ld .agg 32 (Addr.mk b5 0 none) fun v20 =>
    C.st 32 (Addr.mk b4 0 none) (.agg v20) <|
    C.ld .agg 32 (Addr.mk b4 0 none) fun z8 =>
    C.ret (.agg z8)
  )
theorem spec_l01Block_eq (C : Comb) (x0 : Sl) (x1 : Int) : fT C Try.prog { loop := [(3, [(6, (.int .i64))])], join := [], anyOrder := [], pure := [] } n_spec_l01Block [(.slice x0.a x0.n x0.c), (.int .i64 x1)] = spec_l01Block C x0 x1 := by kernel_rfl
theorem spec_l01Block_calls {R : Value → World → Prop} {w : World} (x0 : Sl) (x1 : Int) (h : (spec_l01Block (real Try.prog R) x0 x1 : World → Prop) w) :
    Calls Try.prog n_spec_l01Block [(.slice x0.a x0.n x0.c), (.int .i64 x1)].toArray w fun e w' => ∃ v, e = .returned v ∧ R v w' := fT_sound mixed { loop := [(3, [(6, (.int .i64))])], join := [], anyOrder := [], pure := [] } (by rw [spec_l01Block_eq]; exact h)

/-- math/bits.Len (82) -/
def math_bits_Len (C : Comb) (x0 : Int) : C.St :=
  C.call n_math_bits_Len64 [(.int .u64 x0)] [(.int .i64)] fun r7 =>
  C.ret (.int .i64 r7)
theorem math_bits_Len_eq (C : Comb) (x0 : Int) : fT C Try.prog { loop := [], join := [], anyOrder := [], pure := [] } n_math_bits_Len [(.int .u64 x0)] = math_bits_Len C x0 := by kernel_rfl
theorem math_bits_Len_calls {R : Value → World → Prop} {w : World} (x0 : Int) (h : (math_bits_Len (real Try.prog R) x0 : World → Prop) w) :
    Calls Try.prog n_math_bits_Len [(.int .u64 x0)].toArray w fun e w' => ∃ v, e = .returned v ∧ R v w' := fT_sound mixed { loop := [], join := [], anyOrder := [], pure := [] } (by rw [math_bits_Len_eq]; exact h)

/-- cmp.Compare[byte] (83) -/
def cmp_Compare_byte (C : Comb) (x0 : Int) (x1 : Int) : C.St :=
  C.call n_cmp_isNaN_byte [(.int .u8 x0)] [.bool] fun r8 =>
  C.call n_cmp_isNaN_byte [(.int .u8 x1)] [.bool] fun r10 =>
  cond r8 (
    cond r10 (
      C.ret (.int .i64 0)
    ) (
      C.ret (.int .i64 (-1))
    )
  ) (
    cond r10 (
      C.ret (.int .i64 1)
    ) (
      cond (decide (x0 < x1)) (
        C.ret (.int .i64 (-1))
      ) (
        cond (decide (x0 > x1)) (
          C.ret (.int .i64 1)
        ) (
          C.ret (.int .i64 0)
        )
      )
    )
  )
theorem cmp_Compare_byte_eq (C : Comb) (x0 : Int) (x1 : Int) : fT C Try.prog { loop := [], join := [], anyOrder := [], pure := [] } n_cmp_Compare_byte [(.int .u8 x0), (.int .u8 x1)] = cmp_Compare_byte C x0 x1 := by kernel_rfl
theorem cmp_Compare_byte_calls {R : Value → World → Prop} {w : World} (x0 : Int) (x1 : Int) (h : (cmp_Compare_byte (real Try.prog R) x0 x1 : World → Prop) w) :
    Calls Try.prog n_cmp_Compare_byte [(.int .u8 x0), (.int .u8 x1)].toArray w fun e w' => ∃ v, e = .returned v ∧ R v w' := fT_sound mixed { loop := [], join := [], anyOrder := [], pure := [] } (by rw [cmp_Compare_byte_eq]; exact h)

/-- impl.blocks (84) -/
def impl_blocks (C : Comb) (x0 : Sl) : C.St :=
  C.sem (Instr.buildSlice ty_sl_arr32_uint8 0 #[]) .slice fun y5 =>
  C.loop (TL [.slice, .slice]) (embL [.slice, .slice]) [(.slice x0.a x0.n x0.c), (.slice y5.a y5.n y5.c)] fun s2 ct2 => C.any fun _ =>
  cond (decide ((s2.1.n : Int) ≥ 32)) (
    C.pur (Instr.arrayAt ty_arr32_uint8 (.slice s2.1.a s2.1.n s2.1.c)) .ptr fun y11 =>
    C.ld .agg 32 y11 fun v12 =>
    C.sem (Instr.buildSlice ty_sl_arr32_uint8 1 #[(0, (.agg v12))]) .slice fun y13 =>
    C.sem (Builtin.append_ #[ty_sl_arr32_uint8, ty_sl_arr32_uint8] ty_sl_arr32_uint8 #[(.slice s2.2.a s2.2.n s2.2.c), (.slice y13.a y13.n y13.c)]) .slice fun y14 =>
    C.sl s2.1.a s2.1.n s2.1.c 1 (some 32) none none fun y16 =>
    ct2 [(.slice y16.a y16.n y16.c), (.slice y14.a y14.n y14.c)]
  ) (
    C.ret (.tuple #[(.slice s2.2.a s2.2.n s2.2.c), (.slice s2.1.a s2.1.n s2.1.c)])
  )
theorem impl_blocks_eq (C : Comb) (x0 : Sl) : fT C Try.prog { loop := [(2, [(0, .slice), (4, .slice)])], join := [], anyOrder := [], pure := [] } n_impl_blocks [(.slice x0.a x0.n x0.c)] = impl_blocks C x0 := by kernel_rfl
theorem impl_blocks_calls {R : Value → World → Prop} {w : World} (x0 : Sl) (h : (impl_blocks (real Try.prog R) x0 : World → Prop) w) :
    Calls Try.prog n_impl_blocks [(.slice x0.a x0.n x0.c)].toArray w fun e w' => ∃ v, e = .returned v ∧ R v w' := fT_sound mixed { loop := [(2, [(0, .slice), (4, .slice)])], join := [], anyOrder := [], pure := [] } (by rw [impl_blocks_eq]; exact h)

/-- slices.Concat[[]byte,byte] (85) -/
def slices_Concat_sl_byte_byte (C : Comb) (x0 : Sl) : C.St :=
  C.loop (TL [(.int .i64), (.int .i64)]) (embL [(.int .i64), (.int .i64)]) [(.int .i64 0), (.int .i64 0)] fun s1 ct1 => C.any fun _ =>
  cond (decide (s1.2 < (x0.n : Int))) (
    C.ix x0.a x0.n 1 s1.2 fun p13 =>
    C.ld .slice 1 p13 fun v14 =>
    cond (decide ((IntKind.wrap .i64 (s1.1 + (v14.n : Int))) < 0)) (
      C.pur (Instr.makeInterface ty_string (.string (⟨#[108, 101, 110, 32, 111, 117, 116, 32, 111, 102, 32, 114, 97, 110, 103, 101]⟩ : ByteArray))) .val fun y21 =>
      C.fail
    ) (
      ct1 [(.int .i64 (IntKind.wrap .i64 (s1.1 + (v14.n : Int)))), (.int .i64 (IntKind.wrap .i64 (s1.2 + 1)))]
    )
  ) (
    C.call n_slices_Grow_sl_byte_byte [(.slice none 0 0), (.int .i64 s1.1)] [.slice] fun r24 =>
    C.loop (TL [.slice, (.int .i64)]) (embL [.slice, (.int .i64)]) [(.slice r24.a r24.n r24.c), (.int .i64 0)] fun s6 ct6 => C.any fun _ =>
    cond (decide (s6.2 < (x0.n : Int))) (
      C.ix x0.a x0.n 1 s6.2 fun p29 =>
      C.ld .slice 1 p29 fun v30 =>
      C.sem (Builtin.append_ #[ty_sl_uint8, ty_sl_uint8] ty_sl_uint8 #[(.slice s6.1.a s6.1.n s6.1.c), (.slice v30.a v30.n v30.c)]) .slice fun y33 =>
      ct6 [(.slice y33.a y33.n y33.c), (.int .i64 (IntKind.wrap .i64 (s6.2 + 1)))]
    ) (
      C.ret (.slice s6.1.a s6.1.n s6.1.c)
    )
  )
theorem slices_Concat_sl_byte_byte_eq (C : Comb) (x0 : Sl) : fT C Try.prog { loop := [(3, [(3, (.int .i64)), (11, (.int .i64))]), (11, [(6, .slice), (27, (.int .i64))])], join := [], anyOrder := [], pure := [] } n_slices_Concat_sl_byte_byte [(.slice x0.a x0.n x0.c)] = slices_Concat_sl_byte_byte C x0 := by kernel_rfl
theorem slices_Concat_sl_byte_byte_calls {R : Value → World → Prop} {w : World} (x0 : Sl) (h : (slices_Concat_sl_byte_byte (real Try.prog R) x0 : World → Prop) w) :
    Calls Try.prog n_slices_Concat_sl_byte_byte [(.slice x0.a x0.n x0.c)].toArray w fun e w' => ∃ v, e = .returned v ∧ R v w' := fT_sound mixed { loop := [(3, [(3, (.int .i64)), (11, (.int .i64))]), (11, [(6, .slice), (27, (.int .i64))])], join := [], anyOrder := [], pure := [] } (by rw [slices_Concat_sl_byte_byte_eq]; exact h)

/-- impl.padding (86) -/
def impl_padding (C : Comb) (x0 : Int) : C.St :=
  C.sem (Instr.buildSlice ty_sl_uint8 1 #[(0, (.int .u8 128))]) .slice fun y4 =>
  C.loop (TL [.slice]) (embL [.slice]) [(.slice y4.a y4.n y4.c)] fun s2 ct2 => C.any fun _ =>
  C.call n_impl_size_byte [(.slice s2.a s2.n s2.c)] [(.int .i64)] fun r7 =>
  cond ((Int.tmod (IntKind.wrap .i64 (x0 + r7)) 32) != 24) (
    C.sem (Instr.buildSlice ty_sl_uint8 1 #[(0, (.int .u8 0))]) .slice fun y12 =>
    C.sem (Builtin.append_ #[ty_sl_uint8, ty_sl_uint8] ty_sl_uint8 #[(.slice s2.a s2.n s2.c), (.slice y12.a y12.n y12.c)]) .slice fun y13 =>
    ct2 [(.slice y13.a y13.n y13.c)]
  ) (
    C.call n_impl_appendLittle [(.slice s2.a s2.n s2.c), (.int .u64 (IntKind.wrap .u64 (x0))), (.int .i64 8)] [.slice] fun r17 =>
    C.ret (.slice r17.a r17.n r17.c)
  )
theorem impl_padding_eq (C : Comb) (x0 : Int) : fT C Try.prog { loop := [(2, [(3, .slice)])], join := [], anyOrder := [], pure := [] } n_impl_padding [(.int .i64 x0)] = impl_padding C x0 := by kernel_rfl
theorem impl_padding_calls {R : Value → World → Prop} {w : World} (x0 : Int) (h : (impl_padding (real Try.prog R) x0 : World → Prop) w) :
    Calls Try.prog n_impl_padding [(.int .i64 x0)].toArray w fun e w' => ∃ v, e = .returned v ∧ R v w' := fT_sound mixed { loop := [(2, [(3, .slice)])], join := [], anyOrder := [], pure := [] } (by rw [impl_padding_eq]; exact h)

/-- impl.size[byte] (87) -/
def impl_size_byte (C : Comb) (x0 : Sl) : C.St :=
  C.ret (.int .i64 (x0.n : Int))
theorem impl_size_byte_eq (C : Comb) (x0 : Sl) : fT C Try.prog { loop := [], join := [], anyOrder := [], pure := [] } n_impl_size_byte [(.slice x0.a x0.n x0.c)] = impl_size_byte C x0 := by kernel_rfl
theorem impl_size_byte_calls {R : Value → World → Prop} {w : World} (x0 : Sl) (h : (impl_size_byte (real Try.prog R) x0 : World → Prop) w) :
    Calls Try.prog n_impl_size_byte [(.slice x0.a x0.n x0.c)].toArray w fun e w' => ∃ v, e = .returned v ∧ R v w' := fT_sound mixed { loop := [], join := [], anyOrder := [], pure := [] } (by rw [impl_size_byte_eq]; exact h)

/-- impl.keyOf (88) -/
def impl_keyOf (C : Comb) (x0 : Array Value) : C.St :=
  C.new ty_arr8_uint32 (.agg x0) fun b1 =>
  C.new ty_impl_Key (.agg (Array.replicate 32 (.int .u8 0))) fun b2 =>
  C.new ty_impl_Key (.agg (Array.replicate 32 (.int .u8 0))) fun b3 =>
  C.st 32 (Addr.mk b3 0 none) (.agg (Array.replicate 32 (.int .u8 0))) <|
  C.ld .agg 8 (Addr.mk b1 0 none) fun v7 =>
  C.loop (TL [(.int .i64)]) (embL [(.int .i64)]) [(.int .i64 0)] fun s5 ct5 => C.any fun _ =>
  cond (decide (s5 < 8)) (
    C.ixV (.int .u32) v7 8 1 s5 fun y11 =>
    C.draw <|
    C.sl (some (Addr.mk b3 0 none)) 32 32 1 (some (IntKind.wrap .i64 (4 * s5))) none none fun y14 =>
    C.call n_impl_appendLittle [(.slice none 0 0), (.int .u64 (IntKind.wrap .u64 (y11))), (.int .i64 4)] [.slice] fun r17 =>
    C.sem (Builtin.copy_ #[ty_sl_uint8, ty_sl_uint8] ty_int #[(.slice y14.a y14.n y14.c), (.slice r17.a r17.n r17.c)]) (.int .i64) fun y18 =>
    ct5 [(.int .i64 (IntKind.wrap .i64 (s5 + 1)))]
  ) (
    C.ld .agg 32 (Addr.mk b3 0 none) fun v20 =>
    C.st 32 (Addr.mk b2 0 none) (.agg v20) <|
    C.ld .agg 32 (Addr.mk b2 0 none) fun z11 =>
    C.ret (.agg z11)
  )
theorem impl_keyOf_eq (C : Comb) (x0 : Array Value) : fT C Try.prog { loop := [(3, [(8, (.int .i64))])], join := [], anyOrder := [5], pure := [] } n_impl_keyOf [(.agg x0)] = impl_keyOf C x0 := by kernel_rfl
theorem impl_keyOf_calls {R : Value → World → Prop} {w : World} (x0 : Array Value) (h : (impl_keyOf (real Try.prog R) x0 : World → Prop) w) :
    Calls Try.prog n_impl_keyOf [(.agg x0)].toArray w fun e w' => ∃ v, e = .returned v ∧ R v w' := fT_sound mixed { loop := [(3, [(8, (.int .i64))])], join := [], anyOrder := [5], pure := [] } (by rw [impl_keyOf_eq]; exact h)

/-- impl.mixed (89) -/
def impl_mixed (C : Comb) (x0 : Array Value) (x1 : Sl) : C.St :=
  C.new ty_arr8_uint32 (.agg x0) fun b2 =>
  C.new ty_arr8_uint32 (.agg (Array.replicate 8 (.int .u32 0))) fun b4 =>
  C.loop (TL [(.int .i64)]) (embL [(.int .i64)]) [(.int .i64 0)] fun s3 ct3 => C.any fun _ =>
  cond (decide (s3 < (x1.n : Int))) (
    C.ix x1.a x1.n 32 s3 fun p11 =>
    C.ld .agg 32 p11 fun v12 =>
    C.new ty_arr32_uint8 (.agg (Array.replicate 32 (.int .u8 0))) fun b6 =>
    C.st 32 (Addr.mk b6 0 none) (.agg v12) <|
    C.ld .agg 8 (Addr.mk b2 0 none) fun v13 =>
    C.ld .agg 32 (Addr.mk b6 0 none) fun v14 =>
    C.call n_impl_MixBlock [(.agg v13), (.agg v14)] [.agg] fun r15 =>
    C.st 8 (Addr.mk b2 0 none) (.agg r15) <|
    ct3 [(.int .i64 (IntKind.wrap .i64 (s3 + 1)))]
  ) (
    C.ld .agg 8 (Addr.mk b2 0 none) fun v17 =>
    C.st 8 (Addr.mk b4 0 none) (.agg v17) <|
    C.ld .agg 8 (Addr.mk b4 0 none) fun z11 =>
    C.ret (.agg z11)
  )
theorem impl_mixed_eq (C : Comb) (x0 : Array Value) (x1 : Sl) : fT C Try.prog { loop := [(2, [(9, (.int .i64))])], join := [], anyOrder := [], pure := [] } n_impl_mixed [(.agg x0), (.slice x1.a x1.n x1.c)] = impl_mixed C x0 x1 := by kernel_rfl
theorem impl_mixed_calls {R : Value → World → Prop} {w : World} (x0 : Array Value) (x1 : Sl) (h : (impl_mixed (real Try.prog R) x0 x1 : World → Prop) w) :
    Calls Try.prog n_impl_mixed [(.agg x0), (.slice x1.a x1.n x1.c)].toArray w fun e w' => ∃ v, e = .returned v ∧ R v w' := fT_sound mixed { loop := [(2, [(9, (.int .i64))])], join := [], anyOrder := [], pure := [] } (by rw [impl_mixed_eq]; exact h)

/-- impl.StartState (90) -/
def impl_StartState (C : Comb) (x0 : Int) : C.St :=
  C.new ty_arr8_uint32 (.agg (Array.replicate 8 (.int .u32 0))) fun b2 =>
  C.new ty_arr8_uint32 (.agg (Array.replicate 8 (.int .u32 0))) fun b3 =>
  C.st 8 (Addr.mk b3 0 none) (.agg (Array.replicate 8 (.int .u32 0))) <|
  C.loop (TL [(.int .i64)]) (embL [(.int .i64)]) [(.int .i64 0)] fun s3 ct3 => C.any fun _ =>
  cond (decide (s3 < 8)) (
    C.ix (some (Addr.mk b3 0 none)) 8 1 s3 fun p17 =>
    C.st 1 p17 (.int .u32 (IntKind.wrap .u32 ((IntKind.wrap .u32 (16777619 * (IntKind.wrap .u32 ((IntKind.wrap .i64 (s3 + 1)))))) + (IntKind.wrap .u32 (x0))))) <|
    ct3 [(.int .i64 (IntKind.wrap .i64 (s3 + 1)))]
  ) (
    C.ld .agg 8 (Addr.mk b3 0 none) fun v19 =>
    C.st 8 (Addr.mk b2 0 none) (.agg v19) <|
    C.ld .agg 8 (Addr.mk b2 0 none) fun z6 =>
    C.ret (.agg z6)
  )
theorem impl_StartState_eq (C : Comb) (x0 : Int) : fT C Try.prog { loop := [(3, [(6, (.int .i64))])], join := [], anyOrder := [], pure := [] } n_impl_StartState [(.int .u8 x0)] = impl_StartState C x0 := by kernel_rfl
theorem impl_StartState_calls {R : Value → World → Prop} {w : World} (x0 : Int) (h : (impl_StartState (real Try.prog R) x0 : World → Prop) w) :
    Calls Try.prog n_impl_StartState [(.int .u8 x0)].toArray w fun e w' => ∃ v, e = .returned v ∧ R v w' := fT_sound mixed { loop := [(3, [(6, (.int .i64))])], join := [], anyOrder := [], pure := [] } (by rw [impl_StartState_eq]; exact h)

/-- spec.l01Turn (91) -/
def spec_l01Turn (C : Comb) (x0 : Int) (x1 : Int) : C.St :=
  C.pur (eqB .shl ty_uint32 (.tmp 5) (.tmp 6) (.int .u32 x0) (.int .u64 x1)) (.int .u32) fun y7 =>
  C.pur (eqB .shr ty_uint32 (.tmp 8) (.tmp 10) (.int .u32 x0) (.int .u64 (IntKind.wrap .u64 (32 - x1)))) (.int .u32) fun y11 =>
  C.ret (.int .u32 (bitsI .or .u32 y7 y11))
theorem spec_l01Turn_eq (C : Comb) (x0 : Int) (x1 : Int) : fT C Try.prog { loop := [], join := [], anyOrder := [], pure := [] } n_spec_l01Turn [(.int .u32 x0), (.int .u64 x1)] = spec_l01Turn C x0 x1 := by kernel_rfl
theorem spec_l01Turn_calls {R : Value → World → Prop} {w : World} (x0 : Int) (x1 : Int) (h : (spec_l01Turn (real Try.prog R) x0 x1 : World → Prop) w) :
    Calls Try.prog n_spec_l01Turn [(.int .u32 x0), (.int .u64 x1)].toArray w fun e w' => ∃ v, e = .returned v ∧ R v w' := fT_sound mixed { loop := [], join := [], anyOrder := [], pure := [] } (by rw [spec_l01Turn_eq]; exact h)

/-- math/bits.Len32 (100) -/
def math_bits_Len32 (C : Comb) (x0 : Int) : C.St :=
  C.join (TL [(.int .u32), (.int .i64)]) (embL [(.int .u32), (.int .i64)]) (fun s1 => C.any fun _ =>
      C.join (TL [(.int .u32), (.int .i64)]) (embL [(.int .u32), (.int .i64)]) (fun s2 => C.any fun _ =>
          C.ixS (⟨#[0, 1, 2, 2, 3, 3, 3, 3, 4, 4, 4, 4, 4, 4, 4, 4, 5, 5, 5, 5, 5, 5, 5, 5, 5, 5, 5, 5, 5, 5, 5, 5, 6, 6, 6, 6, 6, 6, 6, 6, 6, 6, 6, 6, 6, 6, 6, 6, 6, 6, 6, 6, 6, 6, 6, 6, 6, 6, 6, 6, 6, 6, 6, 6, 7, 7, 7, 7, 7, 7, 7, 7, 7, 7, 7, 7, 7, 7, 7, 7, 7, 7, 7, 7, 7, 7, 7, 7, 7, 7, 7, 7, 7, 7, 7, 7, 7, 7, 7, 7, 7, 7, 7, 7, 7, 7, 7, 7, 7, 7, 7, 7, 7, 7, 7, 7, 7, 7, 7, 7, 7, 7, 7, 7, 7, 7, 7, 7, 8, 8, 8, 8, 8, 8, 8, 8, 8, 8, 8, 8, 8, 8, 8, 8, 8, 8, 8, 8, 8, 8, 8, 8, 8, 8, 8, 8, 8, 8, 8, 8, 8, 8, 8, 8, 8, 8, 8, 8, 8, 8, 8, 8, 8, 8, 8, 8, 8, 8, 8, 8, 8, 8, 8, 8, 8, 8, 8, 8, 8, 8, 8, 8, 8, 8, 8, 8, 8, 8, 8, 8, 8, 8, 8, 8, 8, 8, 8, 8, 8, 8, 8, 8, 8, 8, 8, 8, 8, 8, 8, 8, 8, 8, 8, 8, 8, 8, 8, 8, 8, 8, 8, 8, 8, 8, 8, 8, 8, 8, 8, 8, 8, 8, 8, 8, 8, 8, 8, 8, 8, 8, 8, 8, 8, 8, 8, 8]⟩ : ByteArray) (IntKind.wrap .u8 (s2.1)) fun y16 =>
          C.ret (.int .i64 (IntKind.wrap .i64 (s2.2 + (IntKind.wrap .i64 (y16)))))
        ) fun jt =>
      cond (decide (s1.1 ≥ 256)) (
        jt [(.int .u32 (Int.fdiv s1.1 (2 ^ 8))), (.int .i64 (IntKind.wrap .i64 (s1.2 + 8)))]
      ) (
        jt [(.int .u32 s1.1), (.int .i64 s1.2)]
      )
    ) fun jt =>
  cond (decide (x0 ≥ 65536)) (
    jt [(.int .u32 (Int.fdiv x0 (2 ^ 16))), (.int .i64 16)]
  ) (
    jt [(.int .u32 x0), (.int .i64 0)]
  )
theorem math_bits_Len32_eq (C : Comb) (x0 : Int) : fT C Try.prog { loop := [], join := [(12, [(0, (.int .u32)), (2, (.int .i64))]), (24, [(0, (.int .u32)), (2, (.int .i64))])], anyOrder := [], pure := [] } n_math_bits_Len32 [(.int .u32 x0)] = math_bits_Len32 C x0 := by kernel_rfl
theorem math_bits_Len32_calls {R : Value → World → Prop} {w : World} (x0 : Int) (h : (math_bits_Len32 (real Try.prog R) x0 : World → Prop) w) :
    Calls Try.prog n_math_bits_Len32 [(.int .u32 x0)].toArray w fun e w' => ∃ v, e = .returned v ∧ R v w' := fT_sound mixed { loop := [], join := [(12, [(0, (.int .u32)), (2, (.int .i64))]), (24, [(0, (.int .u32)), (2, (.int .i64))])], anyOrder := [], pure := [] } (by rw [math_bits_Len32_eq]; exact h)

/-- math/bits.Len64 (101) -/
def math_bits_Len64 (C : Comb) (x0 : Int) : C.St :=
  C.join (TL [(.int .u64), (.int .i64)]) (embL [(.int .u64), (.int .i64)]) (fun s1 => C.any fun _ =>
      C.join (TL [(.int .u64), (.int .i64)]) (embL [(.int .u64), (.int .i64)]) (fun s2 => C.any fun _ =>
          C.join (TL [(.int .u64), (.int .i64)]) (embL [(.int .u64), (.int .i64)]) (fun s3 => C.any fun _ =>
              C.ixS (⟨#[0, 1, 2, 2, 3, 3, 3, 3, 4, 4, 4, 4, 4, 4, 4, 4, 5, 5, 5, 5, 5, 5, 5, 5, 5, 5, 5, 5, 5, 5, 5, 5, 6, 6, 6, 6, 6, 6, 6, 6, 6, 6, 6, 6, 6, 6, 6, 6, 6, 6, 6, 6, 6, 6, 6, 6, 6, 6, 6, 6, 6, 6, 6, 6, 7, 7, 7, 7, 7, 7, 7, 7, 7, 7, 7, 7, 7, 7, 7, 7, 7, 7, 7, 7, 7, 7, 7, 7, 7, 7, 7, 7, 7, 7, 7, 7, 7, 7, 7, 7, 7, 7, 7, 7, 7, 7, 7, 7, 7, 7, 7, 7, 7, 7, 7, 7, 7, 7, 7, 7, 7, 7, 7, 7, 7, 7, 7, 7, 8, 8, 8, 8, 8, 8, 8, 8, 8, 8, 8, 8, 8, 8, 8, 8, 8, 8, 8, 8, 8, 8, 8, 8, 8, 8, 8, 8, 8, 8, 8, 8, 8, 8, 8, 8, 8, 8, 8, 8, 8, 8, 8, 8, 8, 8, 8, 8, 8, 8, 8, 8, 8, 8, 8, 8, 8, 8, 8, 8, 8, 8, 8, 8, 8, 8, 8, 8, 8, 8, 8, 8, 8, 8, 8, 8, 8, 8, 8, 8, 8, 8, 8, 8, 8, 8, 8, 8, 8, 8, 8, 8, 8, 8, 8, 8, 8, 8, 8, 8, 8, 8, 8, 8, 8, 8, 8, 8, 8, 8, 8, 8, 8, 8, 8, 8, 8, 8, 8, 8, 8, 8, 8, 8, 8, 8, 8, 8]⟩ : ByteArray) (IntKind.wrap .u8 (s3.1)) fun y22 =>
              C.ret (.int .i64 (IntKind.wrap .i64 (s3.2 + (IntKind.wrap .i64 (y22)))))
            ) fun jt =>
          cond (decide (s2.1 ≥ 256)) (
            jt [(.int .u64 (Int.fdiv s2.1 (2 ^ 8))), (.int .i64 (IntKind.wrap .i64 (s2.2 + 8)))]
          ) (
            jt [(.int .u64 s2.1), (.int .i64 s2.2)]
          )
        ) fun jt =>
      cond (decide (s1.1 ≥ 65536)) (
        jt [(.int .u64 (Int.fdiv s1.1 (2 ^ 16))), (.int .i64 (IntKind.wrap .i64 (s1.2 + 16)))]
      ) (
        jt [(.int .u64 s1.1), (.int .i64 s1.2)]
      )
    ) fun jt =>
  cond (decide (x0 ≥ 4294967296)) (
    jt [(.int .u64 (Int.fdiv x0 (2 ^ 32))), (.int .i64 32)]
  ) (
    jt [(.int .u64 x0), (.int .i64 0)]
  )
theorem math_bits_Len64_eq (C : Comb) (x0 : Int) : fT C Try.prog { loop := [], join := [(12, [(0, (.int .u64)), (2, (.int .i64))]), (24, [(0, (.int .u64)), (2, (.int .i64))]), (42, [(0, (.int .u64)), (2, (.int .i64))])], anyOrder := [], pure := [] } n_math_bits_Len64 [(.int .u64 x0)] = math_bits_Len64 C x0 := by kernel_rfl
theorem math_bits_Len64_calls {R : Value → World → Prop} {w : World} (x0 : Int) (h : (math_bits_Len64 (real Try.prog R) x0 : World → Prop) w) :
    Calls Try.prog n_math_bits_Len64 [(.int .u64 x0)].toArray w fun e w' => ∃ v, e = .returned v ∧ R v w' := fT_sound mixed { loop := [], join := [(12, [(0, (.int .u64)), (2, (.int .i64))]), (24, [(0, (.int .u64)), (2, (.int .i64))]), (42, [(0, (.int .u64)), (2, (.int .i64))])], anyOrder := [], pure := [] } (by rw [math_bits_Len64_eq]; exact h)

/-- cmp.isNaN[byte] (102) -/
def cmp_isNaN_byte (C : Comb) (x0 : Int) : C.St :=
  C.ret (.bool (x0 != x0))
theorem cmp_isNaN_byte_eq (C : Comb) (x0 : Int) : fT C Try.prog { loop := [], join := [], anyOrder := [], pure := [] } n_cmp_isNaN_byte [(.int .u8 x0)] = cmp_isNaN_byte C x0 := by kernel_rfl
theorem cmp_isNaN_byte_calls {R : Value → World → Prop} {w : World} (x0 : Int) (h : (cmp_isNaN_byte (real Try.prog R) x0 : World → Prop) w) :
    Calls Try.prog n_cmp_isNaN_byte [(.int .u8 x0)].toArray w fun e w' => ∃ v, e = .returned v ∧ R v w' := fT_sound mixed { loop := [], join := [], anyOrder := [], pure := [] } (by rw [cmp_isNaN_byte_eq]; exact h)

/-- slices.Grow[[]byte,byte] (103) -/
def slices_Grow_sl_byte_byte (C : Comb) (x0 : Sl) (x1 : Int) : C.St :=
  C.join (TL []) (embL []) (fun s2 => C.any fun _ =>
      cond (decide ((IntKind.wrap .i64 (x1 - (IntKind.wrap .i64 ((x0.c : Int) - (x0.n : Int))))) > 0)) (
        C.sl x0.a x0.n x0.c 1 none (some (x0.c : Int)) none fun y20 =>
        C.sem (Builtin.append_ #[ty_sl_uint8, ty_int] ty_sl_uint8 #[(.slice y20.a y20.n y20.c), (.int .i64 (IntKind.wrap .i64 (x1 - (IntKind.wrap .i64 ((x0.c : Int) - (x0.n : Int))))))]) .slice fun y22 =>
        C.sl y22.a y22.n y22.c 1 none (some (x0.n : Int)) none fun y25 =>
        C.ret (.slice y25.a y25.n y25.c)
      ) (
        C.ret (.slice x0.a x0.n x0.c)
      )
    ) fun jt =>
  cond (decide (x1 < 0)) (
    C.pur (Instr.makeInterface ty_string (.string (⟨#[99, 97, 110, 110, 111, 116, 32, 98, 101, 32, 110, 101, 103, 97, 116, 105, 118, 101]⟩ : ByteArray))) .val fun y7 =>
    C.fail
  ) (
    jt []
  )
theorem slices_Grow_sl_byte_byte_eq (C : Comb) (x0 : Sl) (x1 : Int) : fT C Try.prog { loop := [], join := [(18, [])], anyOrder := [], pure := [] } n_slices_Grow_sl_byte_byte [(.slice x0.a x0.n x0.c), (.int .i64 x1)] = slices_Grow_sl_byte_byte C x0 x1 := by kernel_rfl
theorem slices_Grow_sl_byte_byte_calls {R : Value → World → Prop} {w : World} (x0 : Sl) (x1 : Int) (h : (slices_Grow_sl_byte_byte (real Try.prog R) x0 x1 : World → Prop) w) :
    Calls Try.prog n_slices_Grow_sl_byte_byte [(.slice x0.a x0.n x0.c), (.int .i64 x1)].toArray w fun e w' => ∃ v, e = .returned v ∧ R v w' := fT_sound mixed { loop := [], join := [(18, [])], anyOrder := [], pure := [] } (by rw [slices_Grow_sl_byte_byte_eq]; exact h)

/-- impl.appendLittle (104) -/
def impl_appendLittle (C : Comb) (x0 : Sl) (x1 : Int) (x2 : Int) : C.St :=
  C.loop (TL [.slice, (.int .i64)]) (embL [.slice, (.int .i64)]) [(.slice x0.a x0.n x0.c), (.int .i64 0)] fun s1 ct1 => C.any fun _ =>
  cond (decide (s1.2 < x2)) (
    C.pur (eqB .shr ty_uint64 (.tmp 13) (.tmp 15) (.int .u64 x1) (.int .i64 (IntKind.wrap .i64 (8 * s1.2)))) (.int .u64) fun y16 =>
    C.sem (Instr.buildSlice ty_sl_uint8 1 #[(0, (.int .u8 (IntKind.wrap .u8 (y16))))]) .slice fun y18 =>
    C.sem (Builtin.append_ #[ty_sl_uint8, ty_sl_uint8] ty_sl_uint8 #[(.slice s1.1.a s1.1.n s1.1.c), (.slice y18.a y18.n y18.c)]) .slice fun y19 =>
    ct1 [(.slice y19.a y19.n y19.c), (.int .i64 (IntKind.wrap .i64 (s1.2 + 1)))]
  ) (
    C.ret (.slice s1.1.a s1.1.n s1.1.c)
  )
theorem impl_appendLittle_eq (C : Comb) (x0 : Sl) (x1 : Int) (x2 : Int) : fT C Try.prog { loop := [(2, [(0, .slice), (9, (.int .i64))])], join := [], anyOrder := [], pure := [] } n_impl_appendLittle [(.slice x0.a x0.n x0.c), (.int .u64 x1), (.int .i64 x2)] = impl_appendLittle C x0 x1 x2 := by kernel_rfl
theorem impl_appendLittle_calls {R : Value → World → Prop} {w : World} (x0 : Sl) (x1 : Int) (x2 : Int) (h : (impl_appendLittle (real Try.prog R) x0 x1 x2 : World → Prop) w) :
    Calls Try.prog n_impl_appendLittle [(.slice x0.a x0.n x0.c), (.int .u64 x1), (.int .i64 x2)].toArray w fun e w' => ∃ v, e = .returned v ∧ R v w' := fT_sound mixed { loop := [(2, [(0, .slice), (9, (.int .i64))])], join := [], anyOrder := [], pure := [] } (by rw [impl_appendLittle_eq]; exact h)

/-- impl.MixBlock (105) -/
def impl_MixBlock (C : Comb) (x0 : Array Value) (x1 : Array Value) : C.St :=
  C.new ty_arr8_uint32 (.agg x0) fun b2 =>
  C.new ty_arr32_uint8 (.agg x1) fun b3 =>
  C.new ty_arr8_uint32 (.agg (Array.replicate 8 (.int .u32 0))) fun b4 =>
  C.new ty_arr8_uint32 (.agg (Array.replicate 8 (.int .u32 0))) fun b5 =>
  C.st 8 (Addr.mk b5 0 none) (.agg (Array.replicate 8 (.int .u32 0))) <|
  C.loop (TL [(.int .i64)]) (embL [(.int .i64)]) [(.int .i64 0)] fun s5 ct5 => C.any fun _ =>
  cond (decide (s5 < 8)) (
    C.sl (some (Addr.mk b3 0 none)) 32 32 1 (some (IntKind.wrap .i64 (4 * s5))) (some (IntKind.wrap .i64 ((IntKind.wrap .i64 (4 * s5)) + 4))) none fun y23 =>
    C.call n_impl_littleNumber [(.slice y23.a y23.n y23.c)] [(.int .u64)] fun r24 =>
    C.ix (some (Addr.mk b5 0 none)) 8 1 s5 fun p26 =>
    C.st 1 p26 (.int .u32 (IntKind.wrap .u32 (r24))) <|
    ct5 [(.int .i64 (IntKind.wrap .i64 (s5 + 1)))]
  ) (
    C.ld .agg 8 (Addr.mk b2 0 none) fun v28 =>
    C.new ty_arr8_uint32 (.agg (Array.replicate 8 (.int .u32 0))) fun b7 =>
    C.st 8 (Addr.mk b7 0 none) (.agg v28) <|
    C.loop (TL [(.int .i64)]) (embL [(.int .i64)]) [(.int .i64 0)] fun s11 ct11 => C.any fun _ =>
    cond (decide (s11 < 12)) (
      C.loop (TL [(.int .i64)]) (embL [(.int .i64)]) [(.int .i64 0)] fun s12 ct12 => C.any fun _ =>
      cond (decide (s12 < 8)) (
        C.draw <|
        C.ix (some (Addr.mk b7 0 none)) 8 1 s12 fun p36 =>
        C.ld (.int .u32) 1 p36 fun v37 =>
        C.ix (some (Addr.mk b5 0 none)) 8 1 (Int.tmod (IntKind.wrap .i64 (s12 + (IntKind.wrap .i64 (3 * s11)))) 8) fun p43 =>
        C.ld (.int .u32) 1 p43 fun v44 =>
        C.draw <|
        C.callQ n_math_bits_RotateLeft32 [(.int .u32 (IntKind.wrap .u32 ((IntKind.wrap .u32 (v37 + v44)) + (IntKind.wrap .u32 (2654435769 * (IntKind.wrap .u32 ((IntKind.wrap .i64 ((IntKind.wrap .i64 ((IntKind.wrap .i64 (8 * s11)) + s12)) + 1))))))))), (.int .i64 7)] [(.int .u32)] fun r55 =>
        C.ix (some (Addr.mk b7 0 none)) 8 1 (Int.tmod (IntKind.wrap .i64 (s12 + 1)) 8) fun p59 =>
        C.ld (.int .u32) 1 p59 fun v60 =>
        C.ix (some (Addr.mk b7 0 none)) 8 1 (Int.tmod (IntKind.wrap .i64 (s12 + 5)) 8) fun p67 =>
        C.ld (.int .u32) 1 p67 fun v68 =>
        C.call n_math_bits_RotateLeft32 [(.int .u32 v68), (.int .i64 13)] [(.int .u32)] fun r69 =>
        C.ix (some (Addr.mk b7 0 none)) 8 1 s12 fun p71 =>
        C.st 1 p71 (.int .u32 (IntKind.wrap .u32 ((bitsI .xor .u32 r55 v60) + r69))) <|
        ct12 [(.int .i64 (IntKind.wrap .i64 (s12 + 1)))]
      ) (
        ct11 [(.int .i64 (IntKind.wrap .i64 (s11 + 1)))]
      )
    ) (
      C.loop (TL [(.int .i64)]) (embL [(.int .i64)]) [(.int .i64 0)] fun s24 ct24 => C.any fun _ =>
      cond (decide (s24 < 8)) (
        C.draw <|
        C.ix (some (Addr.mk b7 0 none)) 8 1 s24 fun p78 =>
        C.ld (.int .u32) 1 p78 fun v79 =>
        C.ix (some (Addr.mk b2 0 none)) 8 1 s24 fun p81 =>
        C.ld (.int .u32) 1 p81 fun v82 =>
        C.ix (some (Addr.mk b7 0 none)) 8 1 s24 fun p84 =>
        C.st 1 p84 (.int .u32 (bitsI .xor .u32 v79 v82)) <|
        ct24 [(.int .i64 (IntKind.wrap .i64 (s24 + 1)))]
      ) (
        C.ld .agg 8 (Addr.mk b7 0 none) fun v86 =>
        C.st 8 (Addr.mk b4 0 none) (.agg v86) <|
        C.ld .agg 8 (Addr.mk b4 0 none) fun z31 =>
        C.ret (.agg z31)
      )
    )
  )
theorem impl_MixBlock_eq (C : Comb) (x0 : Array Value) (x1 : Array Value) : fT C Try.prog { loop := [(3, [(14, (.int .i64))]), (9, [(29, (.int .i64))]), (12, [(32, (.int .i64))]), (20, [(74, (.int .i64))])], join := [], anyOrder := [22], pure := [] } n_impl_MixBlock [(.agg x0), (.agg x1)] = impl_MixBlock C x0 x1 := by kernel_rfl
theorem impl_MixBlock_calls {R : Value → World → Prop} {w : World} (x0 : Array Value) (x1 : Array Value) (h : (impl_MixBlock (real Try.prog R) x0 x1 : World → Prop) w) :
    Calls Try.prog n_impl_MixBlock [(.agg x0), (.agg x1)].toArray w fun e w' => ∃ v, e = .returned v ∧ R v w' := fT_sound mixed { loop := [(3, [(14, (.int .i64))]), (9, [(29, (.int .i64))]), (12, [(32, (.int .i64))]), (20, [(74, (.int .i64))])], join := [], anyOrder := [22], pure := [] } (by rw [impl_MixBlock_eq]; exact h)

/-- impl.littleNumber (111) -/
def impl_littleNumber (C : Comb) (x0 : Sl) : C.St :=
  C.loop (TL [(.int .u64), (.int .i64)]) (embL [(.int .u64), (.int .i64)]) [(.int .u64 0), (.int .i64 0)] fun s1 ct1 => C.any fun _ =>
  cond (decide (s1.2 < (x0.n : Int))) (
    C.ix x0.a x0.n 1 s1.2 fun p11 =>
    C.ld (.int .u8) 1 p11 fun v12 =>
    C.pur (eqB .shl ty_uint64 (.tmp 15) (.tmp 17) (.int .u64 (IntKind.wrap .u64 (v12))) (.int .i64 (IntKind.wrap .i64 (8 * s1.2)))) (.int .u64) fun y18 =>
    ct1 [(.int .u64 (bitsI .or .u64 s1.1 y18)), (.int .i64 (IntKind.wrap .i64 (s1.2 + 1)))]
  ) (
    C.ret (.int .u64 s1.1)
  )
theorem impl_littleNumber_eq (C : Comb) (x0 : Sl) : fT C Try.prog { loop := [(3, [(3, (.int .u64)), (8, (.int .i64))])], join := [], anyOrder := [], pure := [] } n_impl_littleNumber [(.slice x0.a x0.n x0.c)] = impl_littleNumber C x0 := by kernel_rfl
theorem impl_littleNumber_calls {R : Value → World → Prop} {w : World} (x0 : Sl) (h : (impl_littleNumber (real Try.prog R) x0 : World → Prop) w) :
    Calls Try.prog n_impl_littleNumber [(.slice x0.a x0.n x0.c)].toArray w fun e w' => ∃ v, e = .returned v ∧ R v w' := fT_sound mixed { loop := [(3, [(3, (.int .u64)), (8, (.int .i64))])], join := [], anyOrder := [], pure := [] } (by rw [impl_littleNumber_eq]; exact h)

/-- math/bits.RotateLeft32 (112) -/
def math_bits_RotateLeft32 (C : Comb) (x0 : Int) (x1 : Int) : C.St :=
  C.pur (eqB .shl ty_uint32 (.tmp 9) (.tmp 10) (.int .u32 x0) (.int .u64 (bitsI .and .u64 (IntKind.wrap .u64 (x1)) 31))) (.int .u32) fun y11 =>
  C.pur (eqB .shr ty_uint32 (.tmp 12) (.tmp 14) (.int .u32 x0) (.int .u64 (IntKind.wrap .u64 (32 - (bitsI .and .u64 (IntKind.wrap .u64 (x1)) 31))))) (.int .u32) fun y15 =>
  C.ret (.int .u32 (bitsI .or .u32 y11 y15))
theorem math_bits_RotateLeft32_eq (C : Comb) (x0 : Int) (x1 : Int) : fT C Try.prog { loop := [], join := [], anyOrder := [], pure := [] } n_math_bits_RotateLeft32 [(.int .u32 x0), (.int .i64 x1)] = math_bits_RotateLeft32 C x0 x1 := by kernel_rfl
theorem math_bits_RotateLeft32_calls {R : Value → World → Prop} {w : World} (x0 : Int) (x1 : Int) (h : (math_bits_RotateLeft32 (real Try.prog R) x0 x1 : World → Prop) w) :
    Calls Try.prog n_math_bits_RotateLeft32 [(.int .u32 x0), (.int .i64 x1)].toArray w fun e w' => ∃ v, e = .returned v ∧ R v w' := fT_sound mixed { loop := [], join := [], anyOrder := [], pure := [] } (by rw [math_bits_RotateLeft32_eq]; exact h)
end Go.Proofs.Ytcebkinkbelcnaa
