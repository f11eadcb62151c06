/- Printed by a program of this claim's author: each Go function as a Lean function over abstract combinators, and the equation that says that T makes it of the loaded code. -/
import Derived.Test.YtcebkinkbelcnaaGreatSx2
import Derived.Test.YtcebkinkbelcnaaGreatProg
namespace Go.Proofs.YtcebkinkbelcnaaGreat
open Go.Sx
theorem mixed : Tryz.prog.follows .mixedOrders = true := by kernel_rfl

abbrev n_laws_FnExactLinkCounts : Nat := 3
abbrev n_laws_FnExactRootsOf : Nat := 4
abbrev n_laws_FnExactPutBlob : Nat := 5
abbrev n_laws_FnExactJoinStores : Nat := 6
abbrev n_laws_FnExactLinkPath : Nat := 7
abbrev n_laws_FnExactReachableFrom : Nat := 8
abbrev n_laws_FnExactPutFolder : Nat := 9
abbrev n_laws_FnExactMissingFrom : Nat := 10
abbrev n_laws_szStore : Nat := 11
abbrev n_spec_LinkCounts : Nat := 12
abbrev n_laws_toStore : Nat := 13
abbrev n_impl_LinkCounts : Nat := 14
abbrev n_laws_eqInt64S : Nat := 15
abbrev n_laws_eqStore : Nat := 16
abbrev n_laws_markStore : Nat := 17
abbrev n_laws_markInt64S : Nat := 18
abbrev n_laws_heldInt64S : Nat := 19
abbrev n_spec_RootsOf : Nat := 20
abbrev n_impl_RootsOf : Nat := 21
abbrev n_laws_eqKeyS : Nat := 22
abbrev n_laws_markKeyS : Nat := 23
abbrev n_laws_heldKeyS : Nat := 24
abbrev n_laws_szBlob : Nat := 25
abbrev n_spec_PutBlob : Nat := 26
abbrev n_laws_toBlob : Nat := 27
abbrev n_impl_PutBlob : Nat := 28
abbrev n_laws_eqKey : Nat := 29
abbrev n_laws_eqBlob : Nat := 30
abbrev n_laws_markBlob : Nat := 31
abbrev n_laws_heldStore : Nat := 32
abbrev n_spec_JoinStores : Nat := 33
abbrev n_impl_JoinStores : Nat := 34
abbrev n_spec_LinkPath : Nat := 35
abbrev n_laws_toKey : Nat := 36
abbrev n_impl_LinkPath : Nat := 37
abbrev n_laws_szKeyS : Nat := 38
abbrev n_spec_ReachableFrom : Nat := 39
abbrev n_laws_toKeyS : Nat := 40
abbrev n_impl_ReachableFrom : Nat := 41
abbrev n_spec_PutFolder : Nat := 42
abbrev n_impl_PutFolder : Nat := 43
abbrev n_spec_MissingFrom : Nat := 44
abbrev n_impl_MissingFrom : Nat := 45
abbrev n_laws_szBlobS : Nat := 46
abbrev n_spec_l05Open : Nat := 47
abbrev n_ptr_spec_l05Store_counts : Nat := 48
abbrev n_laws_toBlobS : Nat := 49
abbrev n_impl_newShop : Nat := 50
abbrev n_ptr_impl_shop_counts : Nat := 51
abbrev n_laws_eqBlobS : Nat := 52
abbrev n_laws_markBlobS : Nat := 53
abbrev n_laws_szByteS : Nat := 54
abbrev n_spec_l05Blob : Nat := 55
abbrev n_ptr_spec_l05Store_put : Nat := 56
abbrev n_spec_l05Made : Nat := 57
abbrev n_laws_toByteS : Nat := 58
abbrev n_impl_ValidBlob : Nat := 59
abbrev n_ptr_impl_shop_putAll : Nat := 60
abbrev n_laws_eqByteS : Nat := 61
abbrev n_laws_markByteS : Nat := 62
abbrev n_laws_heldBlobS : Nat := 63
abbrev n_ptr_spec_l05Store_store : Nat := 64
abbrev n_ptr_impl_shop_get : Nat := 65
abbrev n_impl_SameBlob : Nat := 66
abbrev n_ptr_spec_l05Store_find : Nat := 67
abbrev n_spec_l05Links : Nat := 68
abbrev n_spec_l01Has : Nat := 69
abbrev n_ptr_impl_shop_has : Nat := 70
abbrev n_impl_Blob_links : Nat := 71
abbrev n_slices_Reverse_sl_impl_Key_impl_Key : Nat := 72
abbrev n_spec_l05Asked : Nat := 73
abbrev n_ptr_spec_l05Store_reach : Nat := 74
abbrev n_ptr_spec_l05Store_keep : Nat := 75
abbrev n_impl_reachCode : Nat := 76
abbrev n_ptr_impl_shop_reached : Nat := 77
abbrev n_spec_l05Ascending : Nat := 78
abbrev n_spec_l05Key : Nat := 79
abbrev n_spec_l01Compare : Nat := 80
abbrev n_impl_ValidStore : Nat := 81
abbrev n_impl_Store_keys : Nat := 82
abbrev n_slices_Clone_sl_impl_Blob_impl_Blob : Nat := 83
abbrev n_ptr_impl_shop_find : Nat := 84
abbrev n_spec_l05SameBlob : Nat := 85
abbrev n_ptr_impl_shop_put : Nat := 86
abbrev n_ptr_impl_shop_store : Nat := 87
abbrev n_laws_heldByteS : Nat := 88
abbrev n_spec_l05Copy : Nat := 89
abbrev n_bytes_Equal : Nat := 90
abbrev n_spec_l05Keys : Nat := 91
abbrev n_spec_l04Read : Nat := 92
abbrev n_spec_l04Empty : Nat := 93
abbrev n_impl_keysIn : Nat := 94
abbrev n_impl_ReadMapNode : Nat := 95
abbrev n_impl_EmptyMapKey : Nat := 96
abbrev n_slices_DeleteFunc_sl_impl_Key_impl_Key : Nat := 97
abbrev n_impl_Blob_links_1 : Nat := 98
abbrev n_slices_ContainsFunc_sl_sl_impl_Key_sl_impl_Key : Nat := 99
abbrev n_impl_reachCode_1 : Nat := 100
abbrev n_impl_sorted : Nat := 101
abbrev n_ptr_impl_shop_reach : Nat := 102
abbrev n_ptr_impl_shop_reached_1 : Nat := 103
abbrev n_spec_l01Sort : Nat := 104
abbrev n_spec_l01Hash : Nat := 105
abbrev n_slices_ContainsFunc_sl_impl_Blob_impl_Blob : Nat := 106
abbrev n_impl_ValidStore_1 : Nat := 107
abbrev n_slices_IsSortedFunc_sl_impl_Key_impl_Key : Nat := 108
abbrev n_impl_compareKeys : Nat := 109
abbrev n_impl_Blob_key : Nat := 110
abbrev n_slices_BinarySearchFunc_sl_impl_Key_impl_Key_impl_Key : Nat := 111
abbrev n_spec_l01Bytes : Nat := 112
abbrev n_slices_Insert_sl_impl_Key_impl_Key : Nat := 113
abbrev n_slices_Insert_sl_impl_Blob_impl_Blob : Nat := 114
abbrev n_impl_Blob_copied : Nat := 115
abbrev n_spec_l04Entry : Nat := 116
abbrev n_impl_ValidEntry : Nat := 117
abbrev n_impl_hash : Nat := 118
abbrev n_slices_IndexFunc_sl_impl_Key_impl_Key : Nat := 119
abbrev n_slices_IndexFunc_sl_sl_impl_Key_sl_impl_Key : Nat := 120
abbrev n_slices_Clone_sl_impl_Key_impl_Key : Nat := 121
abbrev n_slices_SortFunc_sl_impl_Key_impl_Key : Nat := 122
abbrev n_slices_Compact_sl_impl_Key_impl_Key : Nat := 123
abbrev n_ptr_impl_shop_reach_1 : Nat := 124
abbrev n_spec_l01Xor : Nat := 125
abbrev n_spec_l01End : Nat := 126
abbrev n_spec_l01Start : Nat := 127
abbrev n_slices_IndexFunc_sl_impl_Blob_impl_Blob : Nat := 128
abbrev n_slices_Compare_sl_byte_byte : Nat := 129
abbrev n_slices_overlaps_impl_Key : Nat := 130
abbrev n_slices_rotateRight_impl_Key : Nat := 131
abbrev n_slices_overlaps_impl_Blob : Nat := 132
abbrev n_slices_rotateRight_impl_Blob : Nat := 133
abbrev n_slices_Clone_sl_byte_byte : Nat := 134
abbrev n_spec_l04Name : Nat := 135
abbrev n_impl_isName : Nat := 136
abbrev n_impl_blocks : Nat := 137
abbrev n_slices_Concat_sl_byte_byte : Nat := 138
abbrev n_impl_padding : Nat := 139
abbrev n_impl_size_byte : Nat := 140
abbrev n_impl_keyOf : Nat := 141
abbrev n_impl_mixed : Nat := 142
abbrev n_impl_StartState : Nat := 143
abbrev n_slices_pdqsortCmpFunc_impl_Key : Nat := 144
abbrev n_math_bits_Len : Nat := 145
abbrev n_spec_l01Padded : Nat := 146
abbrev n_spec_l01Mix : Nat := 147
abbrev n_spec_l01Block : Nat := 148
abbrev n_cmp_Compare_byte : Nat := 149
abbrev n_slices_rotateLeft_impl_Key : Nat := 150
abbrev n_slices_rotateLeft_impl_Blob : Nat := 151
abbrev n_spec_l00In : Nat := 152
abbrev n_impl_within : Nat := 153
abbrev n_slices_Grow_sl_byte_byte : Nat := 154
abbrev n_impl_appendLittle : Nat := 155
abbrev n_impl_MixBlock : Nat := 156
abbrev n_slices_insertionSortCmpFunc_impl_Key : Nat := 157
abbrev n_slices_heapSortCmpFunc_impl_Key : Nat := 158
abbrev n_slices_breakPatternsCmpFunc_impl_Key : Nat := 159
abbrev n_slices_choosePivotCmpFunc_impl_Key : Nat := 160
abbrev n_slices_reverseRangeCmpFunc_impl_Key : Nat := 161
abbrev n_slices_partialInsertionSortCmpFunc_impl_Key : Nat := 162
abbrev n_slices_partitionEqualCmpFunc_impl_Key : Nat := 163
abbrev n_slices_partitionCmpFunc_impl_Key : Nat := 164
abbrev n_math_bits_Len32 : Nat := 165
abbrev n_math_bits_Len64 : Nat := 166
abbrev n_spec_l01Turn : Nat := 167
abbrev n_cmp_isNaN_byte : Nat := 168
abbrev n_slices_Reverse_sl_impl_Blob_impl_Blob : Nat := 169
abbrev n_impl_littleNumber : Nat := 170
abbrev n_math_bits_RotateLeft32 : Nat := 171
abbrev n_slices_siftDownCmpFunc_impl_Key : Nat := 172
abbrev n_slices_nextPowerOfTwo : Nat := 173
abbrev n_ptr_slices_xorshift_Next : Nat := 174
abbrev n_slices_medianAdjacentCmpFunc_impl_Key : Nat := 175
abbrev n_slices_medianCmpFunc_impl_Key : Nat := 176
abbrev n_slices_order2CmpFunc_impl_Key : Nat := 177
abbrev n_runtime_boundsError_Error : Nat := 178
abbrev n_runtime_boundsError_RuntimeError : Nat := 179
abbrev n_runtime_errorString_Error : Nat := 180
abbrev n_runtime_errorString_RuntimeError : Nat := 181
abbrev n_runtime_plainError_Error : Nat := 182
abbrev n_runtime_plainError_RuntimeError : Nat := 183
abbrev n_runtime_errorAddressString_Error : Nat := 184
abbrev n_runtime_errorAddressString_RuntimeError : Nat := 185
abbrev n_ptr_runtime_TypeAssertionError_Error : Nat := 186
abbrev n_ptr_runtime_TypeAssertionError_RuntimeError : Nat := 187
abbrev n_ptr_runtime_PanicNilError_Error : Nat := 188
abbrev n_ptr_runtime_PanicNilError_RuntimeError : Nat := 189
abbrev n_ptr_internal_abi_Type_Align : Nat := 190
abbrev n_internal_runtime_maps_unhashableTypeError_Error : Nat := 191
abbrev n_internal_runtime_maps_unhashableTypeError_RuntimeError : Nat := 192
abbrev n_impl_MapNode_bytes : Nat := 193
abbrev n_internal_abi_Kind_String : Nat := 194
abbrev ty_x : Nat := 0
abbrev ty_func : Nat := 1
abbrev ty_int64 : Nat := 2
abbrev ty_int : Nat := 3
abbrev ty_bool : Nat := 4
abbrev ty_uint8 : Nat := 5
abbrev ty_internal_abi_BoundsErrorCode : Nat := 6
abbrev ty_struct_x_int64_y_int_signed_bool_code_abi_BoundsErrorCode : Nat := 7
abbrev ty_runtime_boundsError : Nat := 8
abbrev ty_string : Nat := 9
abbrev ty_runtime_errorString : Nat := 10
abbrev ty_runtime_plainError : Nat := 11
abbrev ty_uintptr : Nat := 12
abbrev ty_struct_msg_string_addr_uintptr : Nat := 13
abbrev ty_runtime_errorAddressString : Nat := 14
abbrev ty_ptr_runtime_TypeAssertionError : Nat := 15
abbrev ty_ptr_runtime_PanicNilError : Nat := 16
abbrev ty_ptr_abi_Type : Nat := 17
abbrev ty_struct_typ_ptr_abi_Type : Nat := 18
abbrev ty_internal_runtime_maps_unhashableTypeError : Nat := 19
abbrev ty_interface : Nat := 20
abbrev ty_int32 : Nat := 21
abbrev ty_sl_laws_Blob : Nat := 22
abbrev ty_struct_Blobs_sl_laws_Blob : Nat := 23
abbrev ty_laws_Store : Nat := 24
abbrev ty_func_laws_Store_int_int : Nat := 25
abbrev ty_sl_int64 : Nat := 26
abbrev ty_sl_int64_int64 : Nat := 27
abbrev ty_func_impl_Store_sl_int64_int64 : Nat := 28
abbrev ty_sl_impl_Blob : Nat := 29
abbrev ty_struct_Blobs_sl_impl_Blob : Nat := 30
abbrev ty_impl_Store : Nat := 31
abbrev ty_func_laws_Store_impl_Store : Nat := 32
abbrev ty_func_sl_int64_sl_int64_bool : Nat := 33
abbrev ty_func_impl_Store_impl_Store_bool : Nat := 34
abbrev ty_func_impl_Store_int_int : Nat := 35
abbrev ty_func_sl_int64_int_int : Nat := 36
abbrev ty_func_laws_Store_bool : Nat := 37
abbrev ty_sl_impl_Key : Nat := 38
abbrev ty_sl_impl_Key_int64 : Nat := 39
abbrev ty_func_impl_Store_sl_impl_Key_int64 : Nat := 40
abbrev ty_func_sl_impl_Key_sl_impl_Key_bool : Nat := 41
abbrev ty_func_sl_impl_Key_int_int : Nat := 42
abbrev ty_sl_uint8 : Nat := 43
abbrev ty_struct_Tag_uint8_Data_sl_uint8 : Nat := 44
abbrev ty_laws_Blob : Nat := 45
abbrev ty_func_laws_Blob_int_int : Nat := 46
abbrev ty_arr32_uint8 : Nat := 47
abbrev ty_impl_Key : Nat := 48
abbrev ty_impl_Store_impl_Key_int64 : Nat := 49
abbrev ty_func_impl_Store_impl_Blob_impl_Store_impl_Key_int64 : Nat := 50
abbrev ty_impl_Blob : Nat := 51
abbrev ty_func_laws_Blob_impl_Blob : Nat := 52
abbrev ty_func_impl_Key_impl_Key_bool : Nat := 53
abbrev ty_func_impl_Blob_impl_Blob_bool : Nat := 54
abbrev ty_func_impl_Blob_int_int : Nat := 55
abbrev ty_func_laws_Store_laws_Blob_bool : Nat := 56
abbrev ty_impl_Store_int64 : Nat := 57
abbrev ty_func_impl_Store_impl_Store_impl_Store_int64 : Nat := 58
abbrev ty_func_laws_Store_laws_Store_bool : Nat := 59
abbrev ty_func_impl_Store_impl_Key_impl_Key_sl_impl_Key_int64 : Nat := 60
abbrev ty_func_arr32_uint8_impl_Key : Nat := 61
abbrev ty_func_laws_Store_arr32_uint8_arr32_uint8_bool : Nat := 62
abbrev ty_sl_arr32_uint8 : Nat := 63
abbrev ty_func_sl_arr32_uint8_int_int : Nat := 64
abbrev ty_func_impl_Store_sl_impl_Key_sl_impl_Key_int64 : Nat := 65
abbrev ty_func_sl_arr32_uint8_sl_impl_Key : Nat := 66
abbrev ty_func_laws_Store_sl_arr32_uint8_bool : Nat := 67
abbrev ty_func_impl_Store_sl_impl_Key_impl_Store_impl_Key_int64 : Nat := 68
abbrev ty_func_sl_laws_Blob_int_int : Nat := 69
abbrev ty_ptr_spec_l05Store : Nat := 70
abbrev ty_ptr_spec_l05Store_bool : Nat := 71
abbrev ty_func_ptr_impl_Store_ptr_spec_l05Store_bool : Nat := 72
abbrev ty_ptr_impl_Store : Nat := 73
abbrev ty_func_sl_int64 : Nat := 74
abbrev ty_func_sl_laws_Blob_sl_impl_Blob : Nat := 75
abbrev ty_ptr_impl_shop : Nat := 76
abbrev ty_ptr_impl_shop_bool : Nat := 77
abbrev ty_func_impl_Store_ptr_impl_shop_bool : Nat := 78
abbrev ty_func_sl_impl_Blob_sl_impl_Blob_bool : Nat := 79
abbrev ty_func_sl_impl_Blob_int_int : Nat := 80
abbrev ty_struct_blobs_sl_impl_Blob_keys_sl_impl_Key : Nat := 81
abbrev ty_spec_l05Store : Nat := 82
abbrev ty_struct_keys_sl_impl_Key_blobs_sl_impl_Blob : Nat := 83
abbrev ty_impl_shop : Nat := 84
abbrev ty_func_sl_uint8_int_int : Nat := 85
abbrev ty_func_ptr_impl_Blob_bool : Nat := 86
abbrev ty_ptr_impl_Blob : Nat := 87
abbrev ty_impl_Key_int64 : Nat := 88
abbrev ty_func_impl_Blob_impl_Key_int64 : Nat := 89
abbrev ty_func_ptr_spec_l05Store_impl_Key_int64_impl_Store_impl_Key_int64 : Nat := 90
abbrev ty_func_sl_uint8_sl_uint8 : Nat := 91
abbrev ty_func_impl_Blob_bool : Nat := 92
abbrev ty_func_impl_Blob_impl_Store_impl_Key_int64 : Nat := 93
abbrev ty_func_sl_uint8_sl_uint8_bool : Nat := 94
abbrev ty_func_impl_Store : Nat := 95
abbrev ty_impl_Blob_bool : Nat := 96
abbrev ty_func_impl_Key_impl_Blob_bool : Nat := 97
abbrev ty_func_impl_Key_int : Nat := 98
abbrev ty_sl_int : Nat := 99
abbrev ty_func_ptr_impl_Blob_sl_impl_Key : Nat := 100
abbrev ty_func_sl_impl_Key_impl_Key_bool : Nat := 101
abbrev ty_func_impl_Key_bool : Nat := 102
abbrev ty_map_impl_Key_impl_Key : Nat := 103
abbrev ty_func_sl_impl_Key : Nat := 104
abbrev ty_impl_Key_bool : Nat := 105
abbrev ty_func_sl_impl_Key_106 : Nat := 106
abbrev ty_ptr_spec_l05Store_int64 : Nat := 107
abbrev ty_func_ptr_impl_Store_sl_impl_Key_ptr_spec_l05Store_int64 : Nat := 108
abbrev ty_sl_bool : Nat := 109
abbrev ty_sl_bool_sl_impl_Key : Nat := 110
abbrev ty_func_sl_impl_Key_sl_bool_sl_impl_Key : Nat := 111
abbrev ty_func_sl_bool_ptr_spec_l05Store : Nat := 112
abbrev ty_ptr_impl_shop_int64 : Nat := 113
abbrev ty_func_impl_Store_sl_impl_Key_ptr_impl_shop_int64 : Nat := 114
abbrev ty_func_sl_impl_Key_bool_sl_impl_Key : Nat := 115
abbrev ty_func_sl_impl_Key_sl_impl_Key : Nat := 116
abbrev ty_func_ptr_impl_Blob_impl_Key : Nat := 117
abbrev ty_func_impl_Key_impl_Key_int64 : Nat := 118
abbrev ty_func_impl_Store_bool : Nat := 119
abbrev ty_func_sl_impl_Blob_sl_impl_Blob : Nat := 120
abbrev ty_int_bool : Nat := 121
abbrev ty_func_impl_Key_int_bool : Nat := 122
abbrev ty_func_ptr_impl_Blob_ptr_impl_Blob_bool : Nat := 123
abbrev ty_func_impl_Blob_impl_Blob : Nat := 124
abbrev ty_func_sl_uint8_int_int_sl_impl_Key : Nat := 125
abbrev ty_struct_Name_string_Value_string : Nat := 126
abbrev ty_impl_Entry : Nat := 127
abbrev ty_struct_Left_impl_Key_Right_impl_Key_Entry_impl_Entry : Nat := 128
abbrev ty_impl_MapNode : Nat := 129
abbrev ty_impl_MapNode_bool : Nat := 130
abbrev ty_func_sl_uint8_impl_MapNode_bool : Nat := 131
abbrev ty_func_impl_Key : Nat := 132
abbrev ty_func_sl_uint8_sl_impl_Key : Nat := 133
abbrev ty_impl_MapNode_int64 : Nat := 134
abbrev ty_func_sl_uint8_impl_MapNode_int64 : Nat := 135
abbrev ty_func_sl_impl_Key_func_impl_Key_bool_sl_impl_Key : Nat := 136
abbrev ty_sl_sl_impl_Key : Nat := 137
abbrev ty_func_sl_sl_impl_Key_func_sl_impl_Key_bool_bool : Nat := 138
abbrev ty_func_sl_impl_Key_bool : Nat := 139
abbrev ty_func_sl_impl_Key_impl_Key_sl_impl_Key : Nat := 140
abbrev ty_func_uint8_sl_uint8_impl_Key : Nat := 141
abbrev ty_func_sl_impl_Blob_func_impl_Blob_bool_bool : Nat := 142
abbrev ty_func_sl_impl_Key_func_impl_Key_impl_Key_int_bool : Nat := 143
abbrev ty_func_impl_Key_impl_Key_int : Nat := 144
abbrev ty_func_sl_impl_Key_impl_Key_func_impl_Key_impl_Key_int_int_bool : Nat := 145
abbrev ty_func_sl_impl_Key_int_impl_Key_sl_impl_Key : Nat := 146
abbrev ty_func_sl_impl_Blob_int_impl_Blob_sl_impl_Blob : Nat := 147
abbrev ty_func_impl_Blob : Nat := 148
abbrev ty_func_ptr_impl_Entry_bool : Nat := 149
abbrev ty_ptr_impl_Entry : Nat := 150
abbrev ty_func_impl_Entry_bool : Nat := 151
abbrev ty_func_sl_impl_Key_func_impl_Key_bool_int : Nat := 152
abbrev ty_func_sl_sl_impl_Key_func_sl_impl_Key_bool_int : Nat := 153
abbrev ty_func_sl_impl_Key_func_impl_Key_impl_Key_int : Nat := 154
abbrev ty_map_impl_Key_bool : Nat := 155
abbrev ty_func_impl_Key_156 : Nat := 156
abbrev ty_func_impl_Key_impl_Key_impl_Key : Nat := 157
abbrev ty_func_arr8_uint32_sl_uint8_int64_impl_Key : Nat := 158
abbrev ty_uint32 : Nat := 159
abbrev ty_arr8_uint32 : Nat := 160
abbrev ty_func_uint8_arr8_uint32 : Nat := 161
abbrev ty_func_sl_impl_Blob_func_impl_Blob_bool_int : Nat := 162
abbrev ty_func_sl_uint8_sl_uint8_int : Nat := 163
abbrev ty_uint : Nat := 164
abbrev ty_func_sl_impl_Key_int : Nat := 165
abbrev ty_func_sl_impl_Blob_int : Nat := 166
abbrev ty_func_string_bool : Nat := 167
abbrev ty_sl_arr32_uint8_sl_uint8 : Nat := 168
abbrev ty_func_sl_uint8_sl_arr32_uint8_sl_uint8 : Nat := 169
abbrev ty_func_sl_uint8_sl_uint8_170 : Nat := 170
abbrev ty_func_int64_sl_uint8 : Nat := 171
abbrev ty_func_sl_uint8_int64 : Nat := 172
abbrev ty_func_arr8_uint32_impl_Key : Nat := 173
abbrev ty_func_arr8_uint32_sl_arr32_uint8_arr8_uint32 : Nat := 174
abbrev ty_func_sl_impl_Key_int_int_int_func_impl_Key_impl_Key_int : Nat := 175
abbrev ty_func_uint_int : Nat := 176
abbrev ty_func_sl_uint8_int64_sl_uint8 : Nat := 177
abbrev ty_func_arr8_uint32_arr32_uint8_arr8_uint32 : Nat := 178
abbrev ty_func_sl_uint8_int_arr32_uint8 : Nat := 179
abbrev ty_func_uint8_uint8_int : Nat := 180
abbrev ty_func_int64_int64_int64_bool : Nat := 181
abbrev ty_sl_sl_uint8 : Nat := 182
abbrev ty_func_sl_uint8_int_sl_uint8 : Nat := 183
abbrev ty_func_sl_uint8_uint64_int_sl_uint8 : Nat := 184
abbrev ty_uint64 : Nat := 185
abbrev ty_func_sl_impl_Key_int_int_func_impl_Key_impl_Key_int : Nat := 186
abbrev ty_slices_sortedHint : Nat := 187
abbrev ty_int_slices_sortedHint : Nat := 188
abbrev ty_func_sl_impl_Key_int_int_func_impl_Key_impl_Key_int_int_slices_sortedHint : Nat := 189
abbrev ty_func_sl_impl_Key_int_int_func_impl_Key_impl_Key_int_bool : Nat := 190
abbrev ty_func_sl_impl_Key_int_int_int_func_impl_Key_impl_Key_int_int : Nat := 191
abbrev ty_func_sl_impl_Key_int_int_int_func_impl_Key_impl_Key_int_int_bool : Nat := 192
abbrev ty_func_uint32_int : Nat := 193
abbrev ty_func_uint64_int : Nat := 194
abbrev ty_func_uint32_uint_uint32 : Nat := 195
abbrev ty_func_uint8_bool : Nat := 196
abbrev ty_func_sl_impl_Blob : Nat := 197
abbrev ty_func_sl_uint8_uint64 : Nat := 198
abbrev ty_func_uint32_int_uint32 : Nat := 199
abbrev ty_slices_xorshift : Nat := 200
abbrev ty_func_int_uint : Nat := 201
abbrev ty_func_uint64 : Nat := 202
abbrev ty_func_sl_impl_Key_int_ptr_int_func_impl_Key_impl_Key_int_int : Nat := 203
abbrev ty_ptr_int : Nat := 204
abbrev ty_func_sl_impl_Key_int_int_int_ptr_int_func_impl_Key_impl_Key_int_int : Nat := 205
abbrev ty_ptr_slices_xorshift : Nat := 206
abbrev ty_int_int : Nat := 207
abbrev ty_func_sl_impl_Key_int_int_ptr_int_func_impl_Key_impl_Key_int_int_int : Nat := 208
abbrev ty_func_string : Nat := 209
abbrev ty_struct_interface_ptr_abi_Type_concrete_ptr_abi_Type_asserted_ptr_abi_Type_missingMethod_string : Nat := 210
abbrev ty_runtime_TypeAssertionError : Nat := 211
abbrev ty_arr0_ptr_runtime_PanicNilError : Nat := 212
abbrev ty_struct_arr0_ptr_runtime_PanicNilError : Nat := 213
abbrev ty_runtime_PanicNilError : Nat := 214
abbrev ty_func_int : Nat := 215
abbrev ty_internal_abi_TFlag : Nat := 216
abbrev ty_internal_abi_Kind : Nat := 217
abbrev ty_func_unsafe_Pointer_unsafe_Pointer_bool : Nat := 218
abbrev ty_ptr_uint8 : Nat := 219
abbrev ty_internal_abi_NameOff : Nat := 220
abbrev ty_internal_abi_TypeOff : Nat := 221
abbrev ty_struct_Size_uintptr_PtrBytes_uintptr_Hash_uint32_TFlag_abi_TFlag_Align_uint8_FieldAlign_uint8_Kind_abi_Kind_Equal_func_unsafe_Pointer_unsafe_Pointer_bool_GCData_ptr_uint8_Str_abi_NameOff_PtrToThis_abi_TypeOff : Nat := 222
abbrev ty_internal_abi_Type : Nat := 223
abbrev ty_func_sl_uint8 : Nat := 224
abbrev ty_unsafe_Pointer : Nat := 225

/-- laws.FnExactLinkCounts (3) -/
def laws_FnExactLinkCounts (C : Comb) (x0 : Array Value) : C.St :=
  C.new ty_laws_Store (.agg x0) fun b1 =>
  C.ld .agg 1 (Addr.mk b1 0 none) fun v14 =>
  C.call n_laws_szStore [(.agg v14), (.int .i64 1048576)] [(.int .i64)] fun r16 =>
  cond (decide (r16 < 0)) (
    C.ret (.bool true)
  ) (
    C.ld .agg 1 (Addr.mk b1 0 none) fun v20 =>
    C.call n_laws_toStore [(.agg v20)] [.agg] fun r21 =>
    C.call n_spec_LinkCounts [(.agg r21)] [.slice, (.int .i64)] fun r22 =>
    C.ld .agg 1 (Addr.mk b1 0 none) fun v25 =>
    C.call n_laws_toStore [(.agg v25)] [.agg] fun r26 =>
    C.new ty_impl_Store (.agg (#[(.slice none 0 0)])) fun b6 =>
    C.st 1 (Addr.mk b6 0 none) (.agg r26) <|
    C.ld .agg 1 (Addr.mk b6 0 none) fun v28 =>
    C.call n_impl_LinkCounts [(.agg v28)] [.slice, (.int .i64)] fun r29 =>
    C.join (TL []) (embL []) (fun s13 => C.any fun _ =>
        C.join (TL []) (embL []) (fun s18 => C.any fun _ =>
            C.ld .agg 1 (Addr.mk b6 0 none) fun v46 =>
            C.call n_laws_markStore [(.agg v46), (.int .i64 1)] [(.int .i64)] fun r48 =>
            C.join (TL []) (embL []) (fun s22 => C.any fun _ =>
                C.call n_laws_markInt64S [(.slice r29.1.a r29.1.n r29.1.c), (.int .i64 1)] [(.int .i64)] fun r64 =>
                C.call n_laws_heldInt64S [(.slice r29.1.a r29.1.n r29.1.c), (.int .i64 1)] [(.int .i64)] fun r67 =>
                cond (decide (r67 < 0)) (
                  C.ret (.bool false)
                ) (
                  cond (r67 != r64) (
                    C.ret (.bool false)
                  ) (
                    C.ld .agg 1 (Addr.mk b1 0 none) fun v74 =>
                    C.call n_laws_toStore [(.agg v74)] [.agg] fun r75 =>
                    C.call n_impl_LinkCounts [(.agg r75)] [.slice, (.int .i64)] fun r76 =>
                    C.join (TL []) (embL []) (fun s29 => C.any fun _ =>
                        C.call n_laws_heldInt64S [(.slice r29.1.a r29.1.n r29.1.c), (.int .i64 1)] [(.int .i64)] fun r90 =>
                        cond (decide (r90 < 0)) (
                          C.ret (.bool false)
                        ) (
                          cond (r90 != r64) (
                            C.ret (.bool false)
                          ) (
                            C.ret (.bool true)
                          )
                        )
                      ) fun jt =>
                    C.call n_laws_eqInt64S [(.slice r76.1.a r76.1.n r76.1.c), (.slice r22.1.a r22.1.n r22.1.c)] [.bool] fun r81 =>
                    cond (!r81) (
                      C.ret (.bool false)
                    ) (
                      cond (r76.2 != r22.2) (
                        C.ret (.bool false)
                      ) (
                        jt []
                      )
                    )
                  )
                )
              ) fun jt =>
            cond (decide (r48 < 0)) (
              C.ret (.bool false)
            ) (
              C.call n_laws_eqInt64S [(.slice r29.1.a r29.1.n r29.1.c), (.slice r22.1.a r22.1.n r22.1.c)] [.bool] fun r54 =>
              cond (!r54) (
                C.ret (.bool false)
              ) (
                cond (r29.2 != r22.2) (
                  C.ret (.bool false)
                ) (
                  jt []
                )
              )
            )
          ) fun jt =>
        C.draw <|
        C.ld .agg 1 (Addr.mk b6 0 none) fun v41 =>
        C.ld .agg 1 (Addr.mk b1 0 none) fun v42 =>
        C.call n_laws_toStore [(.agg v42)] [.agg] fun r43 =>
        C.chk [⟨0, 1, (Addr.mk b6 0 none), .agg, v41⟩] <|
        C.call n_laws_eqStore [(.agg v41), (.agg r43)] [.bool] fun r44 =>
        cond (!r44) (
          C.ret (.bool false)
        ) (
          jt []
        )
      ) fun jt =>
    C.call n_laws_eqInt64S [(.slice r29.1.a r29.1.n r29.1.c), (.slice r22.1.a r22.1.n r22.1.c)] [.bool] fun r34 =>
    cond (!r34) (
      C.ret (.bool false)
    ) (
      cond (r29.2 != r22.2) (
        C.ret (.bool false)
      ) (
        jt []
      )
    )
  )
theorem laws_FnExactLinkCounts_eq (C : Comb) (x0 : Array Value) : fT C Tryz.prog { loop := [], join := [(120, []), (135, []), (183, []), (261, [])], anyOrder := [10], pure := [] } n_laws_FnExactLinkCounts [(.agg x0)] = laws_FnExactLinkCounts C x0 := by kernel_rfl
theorem laws_FnExactLinkCounts_calls {R : Value → World → Prop} {w : World} (x0 : Array Value) (h : (laws_FnExactLinkCounts (real Tryz.prog R) x0 : World → Prop) w) :
    Calls Tryz.prog n_laws_FnExactLinkCounts [(.agg x0)].toArray w fun e w' => ∃ v, e = .returned v ∧ R v w' := fT_sound mixed { loop := [], join := [(120, []), (135, []), (183, []), (261, [])], anyOrder := [10], pure := [] } (by rw [laws_FnExactLinkCounts_eq]; exact h)

/-- laws.FnExactRootsOf (4) -/
def laws_FnExactRootsOf (C : Comb) (x0 : Array Value) : C.St :=
  C.new ty_laws_Store (.agg x0) fun b1 =>
  C.ld .agg 1 (Addr.mk b1 0 none) fun v14 =>
  C.call n_laws_szStore [(.agg v14), (.int .i64 1048576)] [(.int .i64)] fun r16 =>
  cond (decide (r16 < 0)) (
    C.ret (.bool true)
  ) (
    C.ld .agg 1 (Addr.mk b1 0 none) fun v20 =>
    C.call n_laws_toStore [(.agg v20)] [.agg] fun r21 =>
    C.call n_spec_RootsOf [(.agg r21)] [.slice, (.int .i64)] fun r22 =>
    C.ld .agg 1 (Addr.mk b1 0 none) fun v25 =>
    C.call n_laws_toStore [(.agg v25)] [.agg] fun r26 =>
    C.new ty_impl_Store (.agg (#[(.slice none 0 0)])) fun b6 =>
    C.st 1 (Addr.mk b6 0 none) (.agg r26) <|
    C.ld .agg 1 (Addr.mk b6 0 none) fun v28 =>
    C.call n_impl_RootsOf [(.agg v28)] [.slice, (.int .i64)] fun r29 =>
    C.join (TL []) (embL []) (fun s13 => C.any fun _ =>
        C.join (TL []) (embL []) (fun s18 => C.any fun _ =>
            C.ld .agg 1 (Addr.mk b6 0 none) fun v46 =>
            C.call n_laws_markStore [(.agg v46), (.int .i64 1)] [(.int .i64)] fun r48 =>
            C.join (TL []) (embL []) (fun s22 => C.any fun _ =>
                C.call n_laws_markKeyS [(.slice r29.1.a r29.1.n r29.1.c), (.int .i64 1)] [(.int .i64)] fun r64 =>
                C.call n_laws_heldKeyS [(.slice r29.1.a r29.1.n r29.1.c), (.int .i64 1)] [(.int .i64)] fun r67 =>
                cond (decide (r67 < 0)) (
                  C.ret (.bool false)
                ) (
                  cond (r67 != r64) (
                    C.ret (.bool false)
                  ) (
                    C.ld .agg 1 (Addr.mk b1 0 none) fun v74 =>
                    C.call n_laws_toStore [(.agg v74)] [.agg] fun r75 =>
                    C.call n_impl_RootsOf [(.agg r75)] [.slice, (.int .i64)] fun r76 =>
                    C.join (TL []) (embL []) (fun s29 => C.any fun _ =>
                        C.call n_laws_heldKeyS [(.slice r29.1.a r29.1.n r29.1.c), (.int .i64 1)] [(.int .i64)] fun r90 =>
                        cond (decide (r90 < 0)) (
                          C.ret (.bool false)
                        ) (
                          cond (r90 != r64) (
                            C.ret (.bool false)
                          ) (
                            C.ret (.bool true)
                          )
                        )
                      ) fun jt =>
                    C.call n_laws_eqKeyS [(.slice r76.1.a r76.1.n r76.1.c), (.slice r22.1.a r22.1.n r22.1.c)] [.bool] fun r81 =>
                    cond (!r81) (
                      C.ret (.bool false)
                    ) (
                      cond (r76.2 != r22.2) (
                        C.ret (.bool false)
                      ) (
                        jt []
                      )
                    )
                  )
                )
              ) fun jt =>
            cond (decide (r48 < 0)) (
              C.ret (.bool false)
            ) (
              C.call n_laws_eqKeyS [(.slice r29.1.a r29.1.n r29.1.c), (.slice r22.1.a r22.1.n r22.1.c)] [.bool] fun r54 =>
              cond (!r54) (
                C.ret (.bool false)
              ) (
                cond (r29.2 != r22.2) (
                  C.ret (.bool false)
                ) (
                  jt []
                )
              )
            )
          ) fun jt =>
        C.draw <|
        C.ld .agg 1 (Addr.mk b6 0 none) fun v41 =>
        C.ld .agg 1 (Addr.mk b1 0 none) fun v42 =>
        C.call n_laws_toStore [(.agg v42)] [.agg] fun r43 =>
        C.chk [⟨0, 1, (Addr.mk b6 0 none), .agg, v41⟩] <|
        C.call n_laws_eqStore [(.agg v41), (.agg r43)] [.bool] fun r44 =>
        cond (!r44) (
          C.ret (.bool false)
        ) (
          jt []
        )
      ) fun jt =>
    C.call n_laws_eqKeyS [(.slice r29.1.a r29.1.n r29.1.c), (.slice r22.1.a r22.1.n r22.1.c)] [.bool] fun r34 =>
    cond (!r34) (
      C.ret (.bool false)
    ) (
      cond (r29.2 != r22.2) (
        C.ret (.bool false)
      ) (
        jt []
      )
    )
  )
theorem laws_FnExactRootsOf_eq (C : Comb) (x0 : Array Value) : fT C Tryz.prog { loop := [], join := [(120, []), (135, []), (183, []), (261, [])], anyOrder := [10], pure := [] } n_laws_FnExactRootsOf [(.agg x0)] = laws_FnExactRootsOf C x0 := by kernel_rfl
theorem laws_FnExactRootsOf_calls {R : Value → World → Prop} {w : World} (x0 : Array Value) (h : (laws_FnExactRootsOf (real Tryz.prog R) x0 : World → Prop) w) :
    Calls Tryz.prog n_laws_FnExactRootsOf [(.agg x0)].toArray w fun e w' => ∃ v, e = .returned v ∧ R v w' := fT_sound mixed { loop := [], join := [(120, []), (135, []), (183, []), (261, [])], anyOrder := [10], pure := [] } (by rw [laws_FnExactRootsOf_eq]; exact h)

/-- laws.FnExactPutBlob (5) -/
def laws_FnExactPutBlob (C : Comb) (x0 : Array Value) (x1 : Array Value) : C.St :=
  C.new ty_laws_Store (.agg x0) fun b2 =>
  C.new ty_laws_Blob (.agg x1) fun b3 =>
  C.ld .agg 1 (Addr.mk b2 0 none) fun v20 =>
  C.call n_laws_szStore [(.agg v20), (.int .i64 1048576)] [(.int .i64)] fun r22 =>
  cond (decide (r22 < 0)) (
    C.ret (.bool true)
  ) (
    C.ld .agg 2 (Addr.mk b3 0 none) fun v25 =>
    C.call n_laws_szBlob [(.agg v25), (.int .i64 r22)] [(.int .i64)] fun r27 =>
    cond (decide (r27 < 0)) (
      C.ret (.bool true)
    ) (
      C.join (TL [.ptr, .ptr, (.int .i64)]) (embL [.ptr, .ptr, (.int .i64)]) (fun s72 => C.any fun _ =>
          C.ld .agg 1 (Addr.mk b2 0 none) fun v39 =>
          C.call n_laws_toStore [(.agg v39)] [.agg] fun r40 =>
          C.new ty_impl_Store (.agg (#[(.slice none 0 0)])) fun b9 =>
          C.st 1 (Addr.mk b9 0 none) (.agg r40) <|
          C.ld .agg 2 (Addr.mk b3 0 none) fun v41 =>
          C.call n_laws_toBlob [(.agg v41)] [.agg] fun r42 =>
          C.new ty_impl_Blob (.agg (#[(.int .u8 0), (.slice none 0 0)])) fun b10 =>
          C.st 2 (Addr.mk b10 0 none) (.agg r42) <|
          C.ld .agg 1 (Addr.mk b9 0 none) fun v44 =>
          C.ld .agg 2 (Addr.mk b10 0 none) fun v45 =>
          C.call n_impl_PutBlob [(.agg v44), (.agg v45)] [.agg, .agg, (.int .i64)] fun r46 =>
          C.new ty_impl_Store (.agg (#[(.slice none 0 0)])) fun b11 =>
          C.new ty_impl_Key (.agg (Array.replicate 32 (.int .u8 0))) fun b12 =>
          C.st 1 (Addr.mk b11 0 none) (.agg r46.1) <|
          C.st 32 (Addr.mk b12 0 none) (.agg r46.2.1) <|
          C.join (TL []) (embL []) (fun s90 => C.any fun _ =>
              C.join (TL []) (embL []) (fun s95 => C.any fun _ =>
                  C.join (TL []) (embL []) (fun s100 => C.any fun _ =>
                      C.ld .agg 1 (Addr.mk b9 0 none) fun v75 =>
                      C.call n_laws_markStore [(.agg v75), (.int .i64 1)] [(.int .i64)] fun r77 =>
                      C.ld .agg 2 (Addr.mk b10 0 none) fun v78 =>
                      C.call n_laws_markBlob [(.agg v78), (.int .i64 r77)] [(.int .i64)] fun r80 =>
                      C.join (TL []) (embL []) (fun s111 => C.any fun _ =>
                          C.ld .agg 1 (Addr.mk b11 0 none) fun v100 =>
                          C.call n_laws_markStore [(.agg v100), (.int .i64 1)] [(.int .i64)] fun r102 =>
                          C.ld .agg 1 (Addr.mk b11 0 none) fun v103 =>
                          C.call n_laws_heldStore [(.agg v103), (.int .i64 1)] [(.int .i64)] fun r105 =>
                          cond (decide (r105 < 0)) (
                            C.ret (.bool false)
                          ) (
                            cond (r105 != r102) (
                              C.ret (.bool false)
                            ) (
                              C.join (TL [.ptr, .ptr, (.int .i64)]) (embL [.ptr, .ptr, (.int .i64)]) (fun s181 => C.any fun _ =>
                                  C.join (TL []) (embL []) (fun s188 => C.any fun _ =>
                                      C.ld .agg 1 (Addr.mk b11 0 none) fun v135 =>
                                      C.call n_laws_heldStore [(.agg v135), (.int .i64 1)] [(.int .i64)] fun r137 =>
                                      cond (decide (r137 < 0)) (
                                        C.ret (.bool false)
                                      ) (
                                        cond (r137 != r102) (
                                          C.ret (.bool false)
                                        ) (
                                          C.ret (.bool true)
                                        )
                                      )
                                    ) fun jt =>
                                  C.ld .agg 1 s181.1 fun v120 =>
                                  C.ld .agg 1 s72.1 fun v121 =>
                                  C.call n_laws_eqStore [(.agg v120), (.agg v121)] [.bool] fun r122 =>
                                  cond (!r122) (
                                    C.ret (.bool false)
                                  ) (
                                    C.ld .agg 32 s181.2.1 fun v125 =>
                                    C.ld .agg 32 s72.2.1 fun v126 =>
                                    C.call n_laws_eqKey [(.agg v125), (.agg v126)] [.bool] fun r127 =>
                                    cond (!r127) (
                                      C.ret (.bool false)
                                    ) (
                                      cond (s181.2.2 != s72.2.2) (
                                        C.ret (.bool false)
                                      ) (
                                        jt []
                                      )
                                    )
                                  )
                                ) fun jt =>
                              C.draw <|
                              C.ld .agg 1 (Addr.mk b2 0 none) fun v112 =>
                              C.ld .agg 2 (Addr.mk b3 0 none) fun v114 =>
                              C.all [
                                (C.call n_laws_toStore [(.agg v112)] [.agg] fun r113 =>
                                 C.chk [⟨2, 2, (Addr.mk b3 0 none), .agg, v114⟩] <|
                                 C.all [
                                   (C.call n_laws_toBlob [(.agg v114)] [.agg] fun r115 =>
                                    C.all [
                                      (C.call n_impl_PutBlob [(.agg r113), (.agg r115)] [.agg, .agg, (.int .i64)] fun r116 =>
                                       C.all [
                                         (C.new ty_impl_Store (.agg (#[(.slice none 0 0)])) fun b17 =>
                                          C.new ty_impl_Key (.agg (Array.replicate 32 (.int .u8 0))) fun b18 =>
                                          C.st 1 (Addr.mk b17 0 none) (.agg r116.1) <|
                                          C.st 32 (Addr.mk b18 0 none) (.agg r116.2.1) <|
                                          jt [(.pointer (some (Addr.mk b17 0 none))), (.pointer (some (Addr.mk b18 0 none))), (.int .i64 r116.2.2)]),
                                         (C.new ty_impl_Key (.agg (Array.replicate 32 (.int .u8 0))) fun b18 =>
                                          C.new ty_impl_Store (.agg (#[(.slice none 0 0)])) fun b17 =>
                                          C.st 1 (Addr.mk b17 0 none) (.agg r116.1) <|
                                          C.st 32 (Addr.mk b18 0 none) (.agg r116.2.1) <|
                                          jt [(.pointer (some (Addr.mk b17 0 none))), (.pointer (some (Addr.mk b18 0 none))), (.int .i64 r116.2.2)])]),
                                      (C.new ty_impl_Store (.agg (#[(.slice none 0 0)])) fun b17 =>
                                       C.all [
                                         (C.call n_impl_PutBlob [(.agg r113), (.agg r115)] [.agg, .agg, (.int .i64)] fun r116 =>
                                          C.new ty_impl_Key (.agg (Array.replicate 32 (.int .u8 0))) fun b18 =>
                                          C.st 1 (Addr.mk b17 0 none) (.agg r116.1) <|
                                          C.st 32 (Addr.mk b18 0 none) (.agg r116.2.1) <|
                                          jt [(.pointer (some (Addr.mk b17 0 none))), (.pointer (some (Addr.mk b18 0 none))), (.int .i64 r116.2.2)]),
                                         (C.new ty_impl_Key (.agg (Array.replicate 32 (.int .u8 0))) fun b18 =>
                                          C.call n_impl_PutBlob [(.agg r113), (.agg r115)] [.agg, .agg, (.int .i64)] fun r116 =>
                                          C.st 1 (Addr.mk b17 0 none) (.agg r116.1) <|
                                          C.st 32 (Addr.mk b18 0 none) (.agg r116.2.1) <|
                                          jt [(.pointer (some (Addr.mk b17 0 none))), (.pointer (some (Addr.mk b18 0 none))), (.int .i64 r116.2.2)])]),
                                      (C.new ty_impl_Key (.agg (Array.replicate 32 (.int .u8 0))) fun b18 =>
                                       C.all [
                                         (C.call n_impl_PutBlob [(.agg r113), (.agg r115)] [.agg, .agg, (.int .i64)] fun r116 =>
                                          C.new ty_impl_Store (.agg (#[(.slice none 0 0)])) fun b17 =>
                                          C.st 1 (Addr.mk b17 0 none) (.agg r116.1) <|
                                          C.st 32 (Addr.mk b18 0 none) (.agg r116.2.1) <|
                                          jt [(.pointer (some (Addr.mk b17 0 none))), (.pointer (some (Addr.mk b18 0 none))), (.int .i64 r116.2.2)]),
                                         (C.new ty_impl_Store (.agg (#[(.slice none 0 0)])) fun b17 =>
                                          C.call n_impl_PutBlob [(.agg r113), (.agg r115)] [.agg, .agg, (.int .i64)] fun r116 =>
                                          C.st 1 (Addr.mk b17 0 none) (.agg r116.1) <|
                                          C.st 32 (Addr.mk b18 0 none) (.agg r116.2.1) <|
                                          jt [(.pointer (some (Addr.mk b17 0 none))), (.pointer (some (Addr.mk b18 0 none))), (.int .i64 r116.2.2)])])]),
                                   (C.new ty_impl_Store (.agg (#[(.slice none 0 0)])) fun b17 =>
                                    C.chk [⟨2, 2, (Addr.mk b3 0 none), .agg, v114⟩] <|
                                    C.all [
                                      (C.call n_laws_toBlob [(.agg v114)] [.agg] fun r115 =>
                                       C.all [
                                         (C.call n_impl_PutBlob [(.agg r113), (.agg r115)] [.agg, .agg, (.int .i64)] fun r116 =>
                                          C.new ty_impl_Key (.agg (Array.replicate 32 (.int .u8 0))) fun b18 =>
                                          C.st 1 (Addr.mk b17 0 none) (.agg r116.1) <|
                                          C.st 32 (Addr.mk b18 0 none) (.agg r116.2.1) <|
                                          jt [(.pointer (some (Addr.mk b17 0 none))), (.pointer (some (Addr.mk b18 0 none))), (.int .i64 r116.2.2)]),
                                         (C.new ty_impl_Key (.agg (Array.replicate 32 (.int .u8 0))) fun b18 =>
                                          C.call n_impl_PutBlob [(.agg r113), (.agg r115)] [.agg, .agg, (.int .i64)] fun r116 =>
                                          C.st 1 (Addr.mk b17 0 none) (.agg r116.1) <|
                                          C.st 32 (Addr.mk b18 0 none) (.agg r116.2.1) <|
                                          jt [(.pointer (some (Addr.mk b17 0 none))), (.pointer (some (Addr.mk b18 0 none))), (.int .i64 r116.2.2)])]),
                                      (C.new ty_impl_Key (.agg (Array.replicate 32 (.int .u8 0))) fun b18 =>
                                       C.chk [⟨2, 2, (Addr.mk b3 0 none), .agg, v114⟩] <|
                                       C.call n_laws_toBlob [(.agg v114)] [.agg] fun r115 =>
                                       C.call n_impl_PutBlob [(.agg r113), (.agg r115)] [.agg, .agg, (.int .i64)] fun r116 =>
                                       C.st 1 (Addr.mk b17 0 none) (.agg r116.1) <|
                                       C.st 32 (Addr.mk b18 0 none) (.agg r116.2.1) <|
                                       jt [(.pointer (some (Addr.mk b17 0 none))), (.pointer (some (Addr.mk b18 0 none))), (.int .i64 r116.2.2)])]),
                                   (C.new ty_impl_Key (.agg (Array.replicate 32 (.int .u8 0))) fun b18 =>
                                    C.chk [⟨2, 2, (Addr.mk b3 0 none), .agg, v114⟩] <|
                                    C.all [
                                      (C.call n_laws_toBlob [(.agg v114)] [.agg] fun r115 =>
                                       C.all [
                                         (C.call n_impl_PutBlob [(.agg r113), (.agg r115)] [.agg, .agg, (.int .i64)] fun r116 =>
                                          C.new ty_impl_Store (.agg (#[(.slice none 0 0)])) fun b17 =>
                                          C.st 1 (Addr.mk b17 0 none) (.agg r116.1) <|
                                          C.st 32 (Addr.mk b18 0 none) (.agg r116.2.1) <|
                                          jt [(.pointer (some (Addr.mk b17 0 none))), (.pointer (some (Addr.mk b18 0 none))), (.int .i64 r116.2.2)]),
                                         (C.new ty_impl_Store (.agg (#[(.slice none 0 0)])) fun b17 =>
                                          C.call n_impl_PutBlob [(.agg r113), (.agg r115)] [.agg, .agg, (.int .i64)] fun r116 =>
                                          C.st 1 (Addr.mk b17 0 none) (.agg r116.1) <|
                                          C.st 32 (Addr.mk b18 0 none) (.agg r116.2.1) <|
                                          jt [(.pointer (some (Addr.mk b17 0 none))), (.pointer (some (Addr.mk b18 0 none))), (.int .i64 r116.2.2)])]),
                                      (C.new ty_impl_Store (.agg (#[(.slice none 0 0)])) fun b17 =>
                                       C.chk [⟨2, 2, (Addr.mk b3 0 none), .agg, v114⟩] <|
                                       C.call n_laws_toBlob [(.agg v114)] [.agg] fun r115 =>
                                       C.call n_impl_PutBlob [(.agg r113), (.agg r115)] [.agg, .agg, (.int .i64)] fun r116 =>
                                       C.st 1 (Addr.mk b17 0 none) (.agg r116.1) <|
                                       C.st 32 (Addr.mk b18 0 none) (.agg r116.2.1) <|
                                       jt [(.pointer (some (Addr.mk b17 0 none))), (.pointer (some (Addr.mk b18 0 none))), (.int .i64 r116.2.2)])])]),
                                (C.new ty_impl_Store (.agg (#[(.slice none 0 0)])) fun b17 =>
                                 C.chk [⟨2, 2, (Addr.mk b3 0 none), .agg, v114⟩, ⟨0, 1, (Addr.mk b2 0 none), .agg, v112⟩] <|
                                 C.all [
                                   (C.call n_laws_toStore [(.agg v112)] [.agg] fun r113 =>
                                    C.chk [⟨2, 2, (Addr.mk b3 0 none), .agg, v114⟩] <|
                                    C.all [
                                      (C.call n_laws_toBlob [(.agg v114)] [.agg] fun r115 =>
                                       C.all [
                                         (C.call n_impl_PutBlob [(.agg r113), (.agg r115)] [.agg, .agg, (.int .i64)] fun r116 =>
                                          C.new ty_impl_Key (.agg (Array.replicate 32 (.int .u8 0))) fun b18 =>
                                          C.st 1 (Addr.mk b17 0 none) (.agg r116.1) <|
                                          C.st 32 (Addr.mk b18 0 none) (.agg r116.2.1) <|
                                          jt [(.pointer (some (Addr.mk b17 0 none))), (.pointer (some (Addr.mk b18 0 none))), (.int .i64 r116.2.2)]),
                                         (C.new ty_impl_Key (.agg (Array.replicate 32 (.int .u8 0))) fun b18 =>
                                          C.call n_impl_PutBlob [(.agg r113), (.agg r115)] [.agg, .agg, (.int .i64)] fun r116 =>
                                          C.st 1 (Addr.mk b17 0 none) (.agg r116.1) <|
                                          C.st 32 (Addr.mk b18 0 none) (.agg r116.2.1) <|
                                          jt [(.pointer (some (Addr.mk b17 0 none))), (.pointer (some (Addr.mk b18 0 none))), (.int .i64 r116.2.2)])]),
                                      (C.new ty_impl_Key (.agg (Array.replicate 32 (.int .u8 0))) fun b18 =>
                                       C.chk [⟨2, 2, (Addr.mk b3 0 none), .agg, v114⟩] <|
                                       C.call n_laws_toBlob [(.agg v114)] [.agg] fun r115 =>
                                       C.call n_impl_PutBlob [(.agg r113), (.agg r115)] [.agg, .agg, (.int .i64)] fun r116 =>
                                       C.st 1 (Addr.mk b17 0 none) (.agg r116.1) <|
                                       C.st 32 (Addr.mk b18 0 none) (.agg r116.2.1) <|
                                       jt [(.pointer (some (Addr.mk b17 0 none))), (.pointer (some (Addr.mk b18 0 none))), (.int .i64 r116.2.2)])]),
                                   (C.new ty_impl_Key (.agg (Array.replicate 32 (.int .u8 0))) fun b18 =>
                                    C.chk [⟨2, 2, (Addr.mk b3 0 none), .agg, v114⟩, ⟨0, 1, (Addr.mk b2 0 none), .agg, v112⟩] <|
                                    C.call n_laws_toStore [(.agg v112)] [.agg] fun r113 =>
                                    C.chk [⟨2, 2, (Addr.mk b3 0 none), .agg, v114⟩] <|
                                    C.call n_laws_toBlob [(.agg v114)] [.agg] fun r115 =>
                                    C.call n_impl_PutBlob [(.agg r113), (.agg r115)] [.agg, .agg, (.int .i64)] fun r116 =>
                                    C.st 1 (Addr.mk b17 0 none) (.agg r116.1) <|
                                    C.st 32 (Addr.mk b18 0 none) (.agg r116.2.1) <|
                                    jt [(.pointer (some (Addr.mk b17 0 none))), (.pointer (some (Addr.mk b18 0 none))), (.int .i64 r116.2.2)])]),
                                (C.new ty_impl_Key (.agg (Array.replicate 32 (.int .u8 0))) fun b18 =>
                                 C.chk [⟨2, 2, (Addr.mk b3 0 none), .agg, v114⟩, ⟨0, 1, (Addr.mk b2 0 none), .agg, v112⟩] <|
                                 C.all [
                                   (C.call n_laws_toStore [(.agg v112)] [.agg] fun r113 =>
                                    C.chk [⟨2, 2, (Addr.mk b3 0 none), .agg, v114⟩] <|
                                    C.all [
                                      (C.call n_laws_toBlob [(.agg v114)] [.agg] fun r115 =>
                                       C.all [
                                         (C.call n_impl_PutBlob [(.agg r113), (.agg r115)] [.agg, .agg, (.int .i64)] fun r116 =>
                                          C.new ty_impl_Store (.agg (#[(.slice none 0 0)])) fun b17 =>
                                          C.st 1 (Addr.mk b17 0 none) (.agg r116.1) <|
                                          C.st 32 (Addr.mk b18 0 none) (.agg r116.2.1) <|
                                          jt [(.pointer (some (Addr.mk b17 0 none))), (.pointer (some (Addr.mk b18 0 none))), (.int .i64 r116.2.2)]),
                                         (C.new ty_impl_Store (.agg (#[(.slice none 0 0)])) fun b17 =>
                                          C.call n_impl_PutBlob [(.agg r113), (.agg r115)] [.agg, .agg, (.int .i64)] fun r116 =>
                                          C.st 1 (Addr.mk b17 0 none) (.agg r116.1) <|
                                          C.st 32 (Addr.mk b18 0 none) (.agg r116.2.1) <|
                                          jt [(.pointer (some (Addr.mk b17 0 none))), (.pointer (some (Addr.mk b18 0 none))), (.int .i64 r116.2.2)])]),
                                      (C.new ty_impl_Store (.agg (#[(.slice none 0 0)])) fun b17 =>
                                       C.chk [⟨2, 2, (Addr.mk b3 0 none), .agg, v114⟩] <|
                                       C.call n_laws_toBlob [(.agg v114)] [.agg] fun r115 =>
                                       C.call n_impl_PutBlob [(.agg r113), (.agg r115)] [.agg, .agg, (.int .i64)] fun r116 =>
                                       C.st 1 (Addr.mk b17 0 none) (.agg r116.1) <|
                                       C.st 32 (Addr.mk b18 0 none) (.agg r116.2.1) <|
                                       jt [(.pointer (some (Addr.mk b17 0 none))), (.pointer (some (Addr.mk b18 0 none))), (.int .i64 r116.2.2)])]),
                                   (C.new ty_impl_Store (.agg (#[(.slice none 0 0)])) fun b17 =>
                                    C.chk [⟨2, 2, (Addr.mk b3 0 none), .agg, v114⟩, ⟨0, 1, (Addr.mk b2 0 none), .agg, v112⟩] <|
                                    C.call n_laws_toStore [(.agg v112)] [.agg] fun r113 =>
                                    C.chk [⟨2, 2, (Addr.mk b3 0 none), .agg, v114⟩] <|
                                    C.call n_laws_toBlob [(.agg v114)] [.agg] fun r115 =>
                                    C.call n_impl_PutBlob [(.agg r113), (.agg r115)] [.agg, .agg, (.int .i64)] fun r116 =>
                                    C.st 1 (Addr.mk b17 0 none) (.agg r116.1) <|
                                    C.st 32 (Addr.mk b18 0 none) (.agg r116.2.1) <|
                                    jt [(.pointer (some (Addr.mk b17 0 none))), (.pointer (some (Addr.mk b18 0 none))), (.int .i64 r116.2.2)])])]
                            )
                          )
                        ) fun jt =>
                      cond (decide (r80 < 0)) (
                        C.ret (.bool false)
                      ) (
                        C.ld .agg 1 (Addr.mk b11 0 none) fun v84 =>
                        C.ld .agg 1 s72.1 fun v85 =>
                        C.call n_laws_eqStore [(.agg v84), (.agg v85)] [.bool] fun r86 =>
                        cond (!r86) (
                          C.ret (.bool false)
                        ) (
                          C.ld .agg 32 (Addr.mk b12 0 none) fun v90 =>
                          C.ld .agg 32 s72.2.1 fun v91 =>
                          C.call n_laws_eqKey [(.agg v90), (.agg v91)] [.bool] fun r92 =>
                          cond (!r92) (
                            C.ret (.bool false)
                          ) (
                            cond (r46.2.2 != s72.2.2) (
                              C.ret (.bool false)
                            ) (
                              jt []
                            )
                          )
                        )
                      )
                    ) fun jt =>
                  C.draw <|
                  C.ld .agg 2 (Addr.mk b10 0 none) fun v70 =>
                  C.ld .agg 2 (Addr.mk b3 0 none) fun v71 =>
                  C.call n_laws_toBlob [(.agg v71)] [.agg] fun r72 =>
                  C.chk [⟨0, 2, (Addr.mk b10 0 none), .agg, v70⟩] <|
                  C.call n_laws_eqBlob [(.agg v70), (.agg r72)] [.bool] fun r73 =>
                  cond (!r73) (
                    C.ret (.bool false)
                  ) (
                    jt []
                  )
                ) fun jt =>
              C.draw <|
              C.ld .agg 1 (Addr.mk b9 0 none) fun v65 =>
              C.ld .agg 1 (Addr.mk b2 0 none) fun v66 =>
              C.call n_laws_toStore [(.agg v66)] [.agg] fun r67 =>
              C.chk [⟨0, 1, (Addr.mk b9 0 none), .agg, v65⟩] <|
              C.call n_laws_eqStore [(.agg v65), (.agg r67)] [.bool] fun r68 =>
              cond (!r68) (
                C.ret (.bool false)
              ) (
                jt []
              )
            ) fun jt =>
          C.ld .agg 1 (Addr.mk b11 0 none) fun v50 =>
          C.ld .agg 1 s72.1 fun v51 =>
          C.call n_laws_eqStore [(.agg v50), (.agg v51)] [.bool] fun r52 =>
          cond (!r52) (
            C.ret (.bool false)
          ) (
            C.ld .agg 32 (Addr.mk b12 0 none) fun v55 =>
            C.ld .agg 32 s72.2.1 fun v56 =>
            C.call n_laws_eqKey [(.agg v55), (.agg v56)] [.bool] fun r57 =>
            cond (!r57) (
              C.ret (.bool false)
            ) (
              cond (r46.2.2 != s72.2.2) (
                C.ret (.bool false)
              ) (
                jt []
              )
            )
          )
        ) fun jt =>
      C.draw <|
      C.ld .agg 1 (Addr.mk b2 0 none) fun v31 =>
      C.ld .agg 2 (Addr.mk b3 0 none) fun v33 =>
      C.all [
        (C.call n_laws_toStore [(.agg v31)] [.agg] fun r32 =>
         C.chk [⟨2, 2, (Addr.mk b3 0 none), .agg, v33⟩] <|
         C.all [
           (C.call n_laws_toBlob [(.agg v33)] [.agg] fun r34 =>
            C.all [
              (C.call n_spec_PutBlob [(.agg r32), (.agg r34)] [.agg, .agg, (.int .i64)] fun r35 =>
               C.all [
                 (C.new ty_impl_Store (.agg (#[(.slice none 0 0)])) fun b6 =>
                  C.new ty_impl_Key (.agg (Array.replicate 32 (.int .u8 0))) fun b7 =>
                  C.st 1 (Addr.mk b6 0 none) (.agg r35.1) <|
                  C.st 32 (Addr.mk b7 0 none) (.agg r35.2.1) <|
                  jt [(.pointer (some (Addr.mk b6 0 none))), (.pointer (some (Addr.mk b7 0 none))), (.int .i64 r35.2.2)]),
                 (C.new ty_impl_Key (.agg (Array.replicate 32 (.int .u8 0))) fun b7 =>
                  C.new ty_impl_Store (.agg (#[(.slice none 0 0)])) fun b6 =>
                  C.st 1 (Addr.mk b6 0 none) (.agg r35.1) <|
                  C.st 32 (Addr.mk b7 0 none) (.agg r35.2.1) <|
                  jt [(.pointer (some (Addr.mk b6 0 none))), (.pointer (some (Addr.mk b7 0 none))), (.int .i64 r35.2.2)])]),
              (C.new ty_impl_Store (.agg (#[(.slice none 0 0)])) fun b6 =>
               C.all [
                 (C.call n_spec_PutBlob [(.agg r32), (.agg r34)] [.agg, .agg, (.int .i64)] fun r35 =>
                  C.new ty_impl_Key (.agg (Array.replicate 32 (.int .u8 0))) fun b7 =>
                  C.st 1 (Addr.mk b6 0 none) (.agg r35.1) <|
                  C.st 32 (Addr.mk b7 0 none) (.agg r35.2.1) <|
                  jt [(.pointer (some (Addr.mk b6 0 none))), (.pointer (some (Addr.mk b7 0 none))), (.int .i64 r35.2.2)]),
                 (C.new ty_impl_Key (.agg (Array.replicate 32 (.int .u8 0))) fun b7 =>
                  C.call n_spec_PutBlob [(.agg r32), (.agg r34)] [.agg, .agg, (.int .i64)] fun r35 =>
                  C.st 1 (Addr.mk b6 0 none) (.agg r35.1) <|
                  C.st 32 (Addr.mk b7 0 none) (.agg r35.2.1) <|
                  jt [(.pointer (some (Addr.mk b6 0 none))), (.pointer (some (Addr.mk b7 0 none))), (.int .i64 r35.2.2)])]),
              (C.new ty_impl_Key (.agg (Array.replicate 32 (.int .u8 0))) fun b7 =>
               C.all [
                 (C.call n_spec_PutBlob [(.agg r32), (.agg r34)] [.agg, .agg, (.int .i64)] fun r35 =>
                  C.new ty_impl_Store (.agg (#[(.slice none 0 0)])) fun b6 =>
                  C.st 1 (Addr.mk b6 0 none) (.agg r35.1) <|
                  C.st 32 (Addr.mk b7 0 none) (.agg r35.2.1) <|
                  jt [(.pointer (some (Addr.mk b6 0 none))), (.pointer (some (Addr.mk b7 0 none))), (.int .i64 r35.2.2)]),
                 (C.new ty_impl_Store (.agg (#[(.slice none 0 0)])) fun b6 =>
                  C.call n_spec_PutBlob [(.agg r32), (.agg r34)] [.agg, .agg, (.int .i64)] fun r35 =>
                  C.st 1 (Addr.mk b6 0 none) (.agg r35.1) <|
                  C.st 32 (Addr.mk b7 0 none) (.agg r35.2.1) <|
                  jt [(.pointer (some (Addr.mk b6 0 none))), (.pointer (some (Addr.mk b7 0 none))), (.int .i64 r35.2.2)])])]),
           (C.new ty_impl_Store (.agg (#[(.slice none 0 0)])) fun b6 =>
            C.chk [⟨2, 2, (Addr.mk b3 0 none), .agg, v33⟩] <|
            C.all [
              (C.call n_laws_toBlob [(.agg v33)] [.agg] fun r34 =>
               C.all [
                 (C.call n_spec_PutBlob [(.agg r32), (.agg r34)] [.agg, .agg, (.int .i64)] fun r35 =>
                  C.new ty_impl_Key (.agg (Array.replicate 32 (.int .u8 0))) fun b7 =>
                  C.st 1 (Addr.mk b6 0 none) (.agg r35.1) <|
                  C.st 32 (Addr.mk b7 0 none) (.agg r35.2.1) <|
                  jt [(.pointer (some (Addr.mk b6 0 none))), (.pointer (some (Addr.mk b7 0 none))), (.int .i64 r35.2.2)]),
                 (C.new ty_impl_Key (.agg (Array.replicate 32 (.int .u8 0))) fun b7 =>
                  C.call n_spec_PutBlob [(.agg r32), (.agg r34)] [.agg, .agg, (.int .i64)] fun r35 =>
                  C.st 1 (Addr.mk b6 0 none) (.agg r35.1) <|
                  C.st 32 (Addr.mk b7 0 none) (.agg r35.2.1) <|
                  jt [(.pointer (some (Addr.mk b6 0 none))), (.pointer (some (Addr.mk b7 0 none))), (.int .i64 r35.2.2)])]),
              (C.new ty_impl_Key (.agg (Array.replicate 32 (.int .u8 0))) fun b7 =>
               C.chk [⟨2, 2, (Addr.mk b3 0 none), .agg, v33⟩] <|
               C.call n_laws_toBlob [(.agg v33)] [.agg] fun r34 =>
               C.call n_spec_PutBlob [(.agg r32), (.agg r34)] [.agg, .agg, (.int .i64)] fun r35 =>
               C.st 1 (Addr.mk b6 0 none) (.agg r35.1) <|
               C.st 32 (Addr.mk b7 0 none) (.agg r35.2.1) <|
               jt [(.pointer (some (Addr.mk b6 0 none))), (.pointer (some (Addr.mk b7 0 none))), (.int .i64 r35.2.2)])]),
           (C.new ty_impl_Key (.agg (Array.replicate 32 (.int .u8 0))) fun b7 =>
            C.chk [⟨2, 2, (Addr.mk b3 0 none), .agg, v33⟩] <|
            C.all [
              (C.call n_laws_toBlob [(.agg v33)] [.agg] fun r34 =>
               C.all [
                 (C.call n_spec_PutBlob [(.agg r32), (.agg r34)] [.agg, .agg, (.int .i64)] fun r35 =>
                  C.new ty_impl_Store (.agg (#[(.slice none 0 0)])) fun b6 =>
                  C.st 1 (Addr.mk b6 0 none) (.agg r35.1) <|
                  C.st 32 (Addr.mk b7 0 none) (.agg r35.2.1) <|
                  jt [(.pointer (some (Addr.mk b6 0 none))), (.pointer (some (Addr.mk b7 0 none))), (.int .i64 r35.2.2)]),
                 (C.new ty_impl_Store (.agg (#[(.slice none 0 0)])) fun b6 =>
                  C.call n_spec_PutBlob [(.agg r32), (.agg r34)] [.agg, .agg, (.int .i64)] fun r35 =>
                  C.st 1 (Addr.mk b6 0 none) (.agg r35.1) <|
                  C.st 32 (Addr.mk b7 0 none) (.agg r35.2.1) <|
                  jt [(.pointer (some (Addr.mk b6 0 none))), (.pointer (some (Addr.mk b7 0 none))), (.int .i64 r35.2.2)])]),
              (C.new ty_impl_Store (.agg (#[(.slice none 0 0)])) fun b6 =>
               C.chk [⟨2, 2, (Addr.mk b3 0 none), .agg, v33⟩] <|
               C.call n_laws_toBlob [(.agg v33)] [.agg] fun r34 =>
               C.call n_spec_PutBlob [(.agg r32), (.agg r34)] [.agg, .agg, (.int .i64)] fun r35 =>
               C.st 1 (Addr.mk b6 0 none) (.agg r35.1) <|
               C.st 32 (Addr.mk b7 0 none) (.agg r35.2.1) <|
               jt [(.pointer (some (Addr.mk b6 0 none))), (.pointer (some (Addr.mk b7 0 none))), (.int .i64 r35.2.2)])])]),
        (C.new ty_impl_Store (.agg (#[(.slice none 0 0)])) fun b6 =>
         C.chk [⟨2, 2, (Addr.mk b3 0 none), .agg, v33⟩, ⟨0, 1, (Addr.mk b2 0 none), .agg, v31⟩] <|
         C.all [
           (C.call n_laws_toStore [(.agg v31)] [.agg] fun r32 =>
            C.chk [⟨2, 2, (Addr.mk b3 0 none), .agg, v33⟩] <|
            C.all [
              (C.call n_laws_toBlob [(.agg v33)] [.agg] fun r34 =>
               C.all [
                 (C.call n_spec_PutBlob [(.agg r32), (.agg r34)] [.agg, .agg, (.int .i64)] fun r35 =>
                  C.new ty_impl_Key (.agg (Array.replicate 32 (.int .u8 0))) fun b7 =>
                  C.st 1 (Addr.mk b6 0 none) (.agg r35.1) <|
                  C.st 32 (Addr.mk b7 0 none) (.agg r35.2.1) <|
                  jt [(.pointer (some (Addr.mk b6 0 none))), (.pointer (some (Addr.mk b7 0 none))), (.int .i64 r35.2.2)]),
                 (C.new ty_impl_Key (.agg (Array.replicate 32 (.int .u8 0))) fun b7 =>
                  C.call n_spec_PutBlob [(.agg r32), (.agg r34)] [.agg, .agg, (.int .i64)] fun r35 =>
                  C.st 1 (Addr.mk b6 0 none) (.agg r35.1) <|
                  C.st 32 (Addr.mk b7 0 none) (.agg r35.2.1) <|
                  jt [(.pointer (some (Addr.mk b6 0 none))), (.pointer (some (Addr.mk b7 0 none))), (.int .i64 r35.2.2)])]),
              (C.new ty_impl_Key (.agg (Array.replicate 32 (.int .u8 0))) fun b7 =>
               C.chk [⟨2, 2, (Addr.mk b3 0 none), .agg, v33⟩] <|
               C.call n_laws_toBlob [(.agg v33)] [.agg] fun r34 =>
               C.call n_spec_PutBlob [(.agg r32), (.agg r34)] [.agg, .agg, (.int .i64)] fun r35 =>
               C.st 1 (Addr.mk b6 0 none) (.agg r35.1) <|
               C.st 32 (Addr.mk b7 0 none) (.agg r35.2.1) <|
               jt [(.pointer (some (Addr.mk b6 0 none))), (.pointer (some (Addr.mk b7 0 none))), (.int .i64 r35.2.2)])]),
           (C.new ty_impl_Key (.agg (Array.replicate 32 (.int .u8 0))) fun b7 =>
            C.chk [⟨2, 2, (Addr.mk b3 0 none), .agg, v33⟩, ⟨0, 1, (Addr.mk b2 0 none), .agg, v31⟩] <|
            C.call n_laws_toStore [(.agg v31)] [.agg] fun r32 =>
            C.chk [⟨2, 2, (Addr.mk b3 0 none), .agg, v33⟩] <|
            C.call n_laws_toBlob [(.agg v33)] [.agg] fun r34 =>
            C.call n_spec_PutBlob [(.agg r32), (.agg r34)] [.agg, .agg, (.int .i64)] fun r35 =>
            C.st 1 (Addr.mk b6 0 none) (.agg r35.1) <|
            C.st 32 (Addr.mk b7 0 none) (.agg r35.2.1) <|
            jt [(.pointer (some (Addr.mk b6 0 none))), (.pointer (some (Addr.mk b7 0 none))), (.int .i64 r35.2.2)])]),
        (C.new ty_impl_Key (.agg (Array.replicate 32 (.int .u8 0))) fun b7 =>
         C.chk [⟨2, 2, (Addr.mk b3 0 none), .agg, v33⟩, ⟨0, 1, (Addr.mk b2 0 none), .agg, v31⟩] <|
         C.all [
           (C.call n_laws_toStore [(.agg v31)] [.agg] fun r32 =>
            C.chk [⟨2, 2, (Addr.mk b3 0 none), .agg, v33⟩] <|
            C.all [
              (C.call n_laws_toBlob [(.agg v33)] [.agg] fun r34 =>
               C.all [
                 (C.call n_spec_PutBlob [(.agg r32), (.agg r34)] [.agg, .agg, (.int .i64)] fun r35 =>
                  C.new ty_impl_Store (.agg (#[(.slice none 0 0)])) fun b6 =>
                  C.st 1 (Addr.mk b6 0 none) (.agg r35.1) <|
                  C.st 32 (Addr.mk b7 0 none) (.agg r35.2.1) <|
                  jt [(.pointer (some (Addr.mk b6 0 none))), (.pointer (some (Addr.mk b7 0 none))), (.int .i64 r35.2.2)]),
                 (C.new ty_impl_Store (.agg (#[(.slice none 0 0)])) fun b6 =>
                  C.call n_spec_PutBlob [(.agg r32), (.agg r34)] [.agg, .agg, (.int .i64)] fun r35 =>
                  C.st 1 (Addr.mk b6 0 none) (.agg r35.1) <|
                  C.st 32 (Addr.mk b7 0 none) (.agg r35.2.1) <|
                  jt [(.pointer (some (Addr.mk b6 0 none))), (.pointer (some (Addr.mk b7 0 none))), (.int .i64 r35.2.2)])]),
              (C.new ty_impl_Store (.agg (#[(.slice none 0 0)])) fun b6 =>
               C.chk [⟨2, 2, (Addr.mk b3 0 none), .agg, v33⟩] <|
               C.call n_laws_toBlob [(.agg v33)] [.agg] fun r34 =>
               C.call n_spec_PutBlob [(.agg r32), (.agg r34)] [.agg, .agg, (.int .i64)] fun r35 =>
               C.st 1 (Addr.mk b6 0 none) (.agg r35.1) <|
               C.st 32 (Addr.mk b7 0 none) (.agg r35.2.1) <|
               jt [(.pointer (some (Addr.mk b6 0 none))), (.pointer (some (Addr.mk b7 0 none))), (.int .i64 r35.2.2)])]),
           (C.new ty_impl_Store (.agg (#[(.slice none 0 0)])) fun b6 =>
            C.chk [⟨2, 2, (Addr.mk b3 0 none), .agg, v33⟩, ⟨0, 1, (Addr.mk b2 0 none), .agg, v31⟩] <|
            C.call n_laws_toStore [(.agg v31)] [.agg] fun r32 =>
            C.chk [⟨2, 2, (Addr.mk b3 0 none), .agg, v33⟩] <|
            C.call n_laws_toBlob [(.agg v33)] [.agg] fun r34 =>
            C.call n_spec_PutBlob [(.agg r32), (.agg r34)] [.agg, .agg, (.int .i64)] fun r35 =>
            C.st 1 (Addr.mk b6 0 none) (.agg r35.1) <|
            C.st 32 (Addr.mk b7 0 none) (.agg r35.2.1) <|
            jt [(.pointer (some (Addr.mk b6 0 none))), (.pointer (some (Addr.mk b7 0 none))), (.int .i64 r35.2.2)])])]
    )
  )
theorem laws_FnExactPutBlob_eq (C : Comb) (x0 : Array Value) (x1 : Array Value) : fT C Tryz.prog { loop := [], join := [(25, [(6, .ptr), (7, .ptr), (8, (.int .i64))]), (192, []), (207, []), (222, []), (297, []), (94, [(17, .ptr), (18, .ptr), (19, (.int .i64))]), (402, [])], anyOrder := [8, 14, 16, 31], pure := [] } n_laws_FnExactPutBlob [(.agg x0), (.agg x1)] = laws_FnExactPutBlob C x0 x1 := by kernel_rfl
theorem laws_FnExactPutBlob_calls {R : Value → World → Prop} {w : World} (x0 : Array Value) (x1 : Array Value) (h : (laws_FnExactPutBlob (real Tryz.prog R) x0 x1 : World → Prop) w) :
    Calls Tryz.prog n_laws_FnExactPutBlob [(.agg x0), (.agg x1)].toArray w fun e w' => ∃ v, e = .returned v ∧ R v w' := fT_sound mixed { loop := [], join := [(25, [(6, .ptr), (7, .ptr), (8, (.int .i64))]), (192, []), (207, []), (222, []), (297, []), (94, [(17, .ptr), (18, .ptr), (19, (.int .i64))]), (402, [])], anyOrder := [8, 14, 16, 31], pure := [] } (by rw [laws_FnExactPutBlob_eq]; exact h)

/-- laws.FnExactJoinStores (6) -/
def laws_FnExactJoinStores (C : Comb) (x0 : Array Value) (x1 : Array Value) : C.St :=
  C.new ty_laws_Store (.agg x0) fun b2 =>
  C.new ty_laws_Store (.agg x1) fun b3 =>
  C.ld .agg 1 (Addr.mk b2 0 none) fun v17 =>
  C.call n_laws_szStore [(.agg v17), (.int .i64 1048576)] [(.int .i64)] fun r19 =>
  cond (decide (r19 < 0)) (
    C.ret (.bool true)
  ) (
    C.ld .agg 1 (Addr.mk b3 0 none) fun v22 =>
    C.call n_laws_szStore [(.agg v22), (.int .i64 r19)] [(.int .i64)] fun r24 =>
    cond (decide (r24 < 0)) (
      C.ret (.bool true)
    ) (
      C.join (TL [.ptr, (.int .i64)]) (embL [.ptr, (.int .i64)]) (fun s22 => C.any fun _ =>
          C.ld .agg 1 (Addr.mk b2 0 none) fun v35 =>
          C.call n_laws_toStore [(.agg v35)] [.agg] fun r36 =>
          C.new ty_impl_Store (.agg (#[(.slice none 0 0)])) fun b8 =>
          C.st 1 (Addr.mk b8 0 none) (.agg r36) <|
          C.ld .agg 1 (Addr.mk b3 0 none) fun v37 =>
          C.call n_laws_toStore [(.agg v37)] [.agg] fun r38 =>
          C.new ty_impl_Store (.agg (#[(.slice none 0 0)])) fun b9 =>
          C.st 1 (Addr.mk b9 0 none) (.agg r38) <|
          C.ld .agg 1 (Addr.mk b8 0 none) fun v40 =>
          C.ld .agg 1 (Addr.mk b9 0 none) fun v41 =>
          C.call n_impl_JoinStores [(.agg v40), (.agg v41)] [.agg, (.int .i64)] fun r42 =>
          C.new ty_impl_Store (.agg (#[(.slice none 0 0)])) fun b10 =>
          C.st 1 (Addr.mk b10 0 none) (.agg r42.1) <|
          C.join (TL []) (embL []) (fun s36 => C.any fun _ =>
              C.join (TL []) (embL []) (fun s41 => C.any fun _ =>
                  C.join (TL []) (embL []) (fun s46 => C.any fun _ =>
                      C.ld .agg 1 (Addr.mk b8 0 none) fun v64 =>
                      C.call n_laws_markStore [(.agg v64), (.int .i64 1)] [(.int .i64)] fun r66 =>
                      C.ld .agg 1 (Addr.mk b9 0 none) fun v67 =>
                      C.call n_laws_markStore [(.agg v67), (.int .i64 r66)] [(.int .i64)] fun r69 =>
                      C.join (TL []) (embL []) (fun s54 => C.any fun _ =>
                          C.ld .agg 1 (Addr.mk b10 0 none) fun v83 =>
                          C.call n_laws_markStore [(.agg v83), (.int .i64 1)] [(.int .i64)] fun r85 =>
                          C.ld .agg 1 (Addr.mk b10 0 none) fun v86 =>
                          C.call n_laws_heldStore [(.agg v86), (.int .i64 1)] [(.int .i64)] fun r88 =>
                          cond (decide (r88 < 0)) (
                            C.ret (.bool false)
                          ) (
                            cond (r88 != r85) (
                              C.ret (.bool false)
                            ) (
                              C.join (TL [.ptr, (.int .i64)]) (embL [.ptr, (.int .i64)]) (fun s74 => C.any fun _ =>
                                  C.join (TL []) (embL []) (fun s78 => C.any fun _ =>
                                      C.ld .agg 1 (Addr.mk b10 0 none) fun v111 =>
                                      C.call n_laws_heldStore [(.agg v111), (.int .i64 1)] [(.int .i64)] fun r113 =>
                                      cond (decide (r113 < 0)) (
                                        C.ret (.bool false)
                                      ) (
                                        cond (r113 != r85) (
                                          C.ret (.bool false)
                                        ) (
                                          C.ret (.bool true)
                                        )
                                      )
                                    ) fun jt =>
                                  C.ld .agg 1 s74.1 fun v102 =>
                                  C.ld .agg 1 s22.1 fun v103 =>
                                  C.call n_laws_eqStore [(.agg v102), (.agg v103)] [.bool] fun r104 =>
                                  cond (!r104) (
                                    C.ret (.bool false)
                                  ) (
                                    cond (s74.2 != s22.2) (
                                      C.ret (.bool false)
                                    ) (
                                      jt []
                                    )
                                  )
                                ) fun jt =>
                              C.draw <|
                              C.ld .agg 1 (Addr.mk b2 0 none) fun v95 =>
                              C.ld .agg 1 (Addr.mk b3 0 none) fun v97 =>
                              C.all [
                                (C.call n_laws_toStore [(.agg v95)] [.agg] fun r96 =>
                                 C.chk [⟨2, 1, (Addr.mk b3 0 none), .agg, v97⟩] <|
                                 C.all [
                                   (C.call n_laws_toStore [(.agg v97)] [.agg] fun r98 =>
                                    C.all [
                                      (C.call n_impl_JoinStores [(.agg r96), (.agg r98)] [.agg, (.int .i64)] fun r99 =>
                                       C.new ty_impl_Store (.agg (#[(.slice none 0 0)])) fun b15 =>
                                       C.st 1 (Addr.mk b15 0 none) (.agg r99.1) <|
                                       jt [(.pointer (some (Addr.mk b15 0 none))), (.int .i64 r99.2)]),
                                      (C.new ty_impl_Store (.agg (#[(.slice none 0 0)])) fun b15 =>
                                       C.call n_impl_JoinStores [(.agg r96), (.agg r98)] [.agg, (.int .i64)] fun r99 =>
                                       C.st 1 (Addr.mk b15 0 none) (.agg r99.1) <|
                                       jt [(.pointer (some (Addr.mk b15 0 none))), (.int .i64 r99.2)])]),
                                   (C.new ty_impl_Store (.agg (#[(.slice none 0 0)])) fun b15 =>
                                    C.chk [⟨2, 1, (Addr.mk b3 0 none), .agg, v97⟩] <|
                                    C.call n_laws_toStore [(.agg v97)] [.agg] fun r98 =>
                                    C.call n_impl_JoinStores [(.agg r96), (.agg r98)] [.agg, (.int .i64)] fun r99 =>
                                    C.st 1 (Addr.mk b15 0 none) (.agg r99.1) <|
                                    jt [(.pointer (some (Addr.mk b15 0 none))), (.int .i64 r99.2)])]),
                                (C.new ty_impl_Store (.agg (#[(.slice none 0 0)])) fun b15 =>
                                 C.chk [⟨2, 1, (Addr.mk b3 0 none), .agg, v97⟩, ⟨0, 1, (Addr.mk b2 0 none), .agg, v95⟩] <|
                                 C.call n_laws_toStore [(.agg v95)] [.agg] fun r96 =>
                                 C.chk [⟨2, 1, (Addr.mk b3 0 none), .agg, v97⟩] <|
                                 C.call n_laws_toStore [(.agg v97)] [.agg] fun r98 =>
                                 C.call n_impl_JoinStores [(.agg r96), (.agg r98)] [.agg, (.int .i64)] fun r99 =>
                                 C.st 1 (Addr.mk b15 0 none) (.agg r99.1) <|
                                 jt [(.pointer (some (Addr.mk b15 0 none))), (.int .i64 r99.2)])]
                            )
                          )
                        ) fun jt =>
                      cond (decide (r69 < 0)) (
                        C.ret (.bool false)
                      ) (
                        C.ld .agg 1 (Addr.mk b10 0 none) fun v73 =>
                        C.ld .agg 1 s22.1 fun v74 =>
                        C.call n_laws_eqStore [(.agg v73), (.agg v74)] [.bool] fun r75 =>
                        cond (!r75) (
                          C.ret (.bool false)
                        ) (
                          cond (r42.2 != s22.2) (
                            C.ret (.bool false)
                          ) (
                            jt []
                          )
                        )
                      )
                    ) fun jt =>
                  C.draw <|
                  C.ld .agg 1 (Addr.mk b9 0 none) fun v59 =>
                  C.ld .agg 1 (Addr.mk b3 0 none) fun v60 =>
                  C.call n_laws_toStore [(.agg v60)] [.agg] fun r61 =>
                  C.chk [⟨0, 1, (Addr.mk b9 0 none), .agg, v59⟩] <|
                  C.call n_laws_eqStore [(.agg v59), (.agg r61)] [.bool] fun r62 =>
                  cond (!r62) (
                    C.ret (.bool false)
                  ) (
                    jt []
                  )
                ) fun jt =>
              C.draw <|
              C.ld .agg 1 (Addr.mk b8 0 none) fun v54 =>
              C.ld .agg 1 (Addr.mk b2 0 none) fun v55 =>
              C.call n_laws_toStore [(.agg v55)] [.agg] fun r56 =>
              C.chk [⟨0, 1, (Addr.mk b8 0 none), .agg, v54⟩] <|
              C.call n_laws_eqStore [(.agg v54), (.agg r56)] [.bool] fun r57 =>
              cond (!r57) (
                C.ret (.bool false)
              ) (
                jt []
              )
            ) fun jt =>
          C.ld .agg 1 (Addr.mk b10 0 none) fun v45 =>
          C.ld .agg 1 s22.1 fun v46 =>
          C.call n_laws_eqStore [(.agg v45), (.agg v46)] [.bool] fun r47 =>
          cond (!r47) (
            C.ret (.bool false)
          ) (
            cond (r42.2 != s22.2) (
              C.ret (.bool false)
            ) (
              jt []
            )
          )
        ) fun jt =>
      C.draw <|
      C.ld .agg 1 (Addr.mk b2 0 none) fun v28 =>
      C.ld .agg 1 (Addr.mk b3 0 none) fun v30 =>
      C.all [
        (C.call n_laws_toStore [(.agg v28)] [.agg] fun r29 =>
         C.chk [⟨2, 1, (Addr.mk b3 0 none), .agg, v30⟩] <|
         C.all [
           (C.call n_laws_toStore [(.agg v30)] [.agg] fun r31 =>
            C.all [
              (C.call n_spec_JoinStores [(.agg r29), (.agg r31)] [.agg, (.int .i64)] fun r32 =>
               C.new ty_impl_Store (.agg (#[(.slice none 0 0)])) fun b6 =>
               C.st 1 (Addr.mk b6 0 none) (.agg r32.1) <|
               jt [(.pointer (some (Addr.mk b6 0 none))), (.int .i64 r32.2)]),
              (C.new ty_impl_Store (.agg (#[(.slice none 0 0)])) fun b6 =>
               C.call n_spec_JoinStores [(.agg r29), (.agg r31)] [.agg, (.int .i64)] fun r32 =>
               C.st 1 (Addr.mk b6 0 none) (.agg r32.1) <|
               jt [(.pointer (some (Addr.mk b6 0 none))), (.int .i64 r32.2)])]),
           (C.new ty_impl_Store (.agg (#[(.slice none 0 0)])) fun b6 =>
            C.chk [⟨2, 1, (Addr.mk b3 0 none), .agg, v30⟩] <|
            C.call n_laws_toStore [(.agg v30)] [.agg] fun r31 =>
            C.call n_spec_JoinStores [(.agg r29), (.agg r31)] [.agg, (.int .i64)] fun r32 =>
            C.st 1 (Addr.mk b6 0 none) (.agg r32.1) <|
            jt [(.pointer (some (Addr.mk b6 0 none))), (.int .i64 r32.2)])]),
        (C.new ty_impl_Store (.agg (#[(.slice none 0 0)])) fun b6 =>
         C.chk [⟨2, 1, (Addr.mk b3 0 none), .agg, v30⟩, ⟨0, 1, (Addr.mk b2 0 none), .agg, v28⟩] <|
         C.call n_laws_toStore [(.agg v28)] [.agg] fun r29 =>
         C.chk [⟨2, 1, (Addr.mk b3 0 none), .agg, v30⟩] <|
         C.call n_laws_toStore [(.agg v30)] [.agg] fun r31 =>
         C.call n_spec_JoinStores [(.agg r29), (.agg r31)] [.agg, (.int .i64)] fun r32 =>
         C.st 1 (Addr.mk b6 0 none) (.agg r32.1) <|
         jt [(.pointer (some (Addr.mk b6 0 none))), (.int .i64 r32.2)])]
    )
  )
theorem laws_FnExactJoinStores_eq (C : Comb) (x0 : Array Value) (x1 : Array Value) : fT C Tryz.prog { loop := [], join := [(25, [(6, .ptr), (7, (.int .i64))]), (159, []), (174, []), (189, []), (246, []), (94, [(15, .ptr), (16, (.int .i64))]), (330, [])], anyOrder := [8, 14, 16, 31], pure := [] } n_laws_FnExactJoinStores [(.agg x0), (.agg x1)] = laws_FnExactJoinStores C x0 x1 := by kernel_rfl
theorem laws_FnExactJoinStores_calls {R : Value → World → Prop} {w : World} (x0 : Array Value) (x1 : Array Value) (h : (laws_FnExactJoinStores (real Tryz.prog R) x0 x1 : World → Prop) w) :
    Calls Tryz.prog n_laws_FnExactJoinStores [(.agg x0), (.agg x1)].toArray w fun e w' => ∃ v, e = .returned v ∧ R v w' := fT_sound mixed { loop := [], join := [(25, [(6, .ptr), (7, (.int .i64))]), (159, []), (174, []), (189, []), (246, []), (94, [(15, .ptr), (16, (.int .i64))]), (330, [])], anyOrder := [8, 14, 16, 31], pure := [] } (by rw [laws_FnExactJoinStores_eq]; exact h)

/-- laws.FnExactLinkPath (7) -/
def laws_FnExactLinkPath (C : Comb) (x0 : Array Value) (x1 : Array Value) (x2 : Array Value) : C.St :=
  C.new ty_laws_Store (.agg x0) fun b3 =>
  C.new ty_arr32_uint8 (.agg x1) fun b4 =>
  C.new ty_arr32_uint8 (.agg x2) fun b5 =>
  C.ld .agg 1 (Addr.mk b3 0 none) fun v18 =>
  C.call n_laws_szStore [(.agg v18), (.int .i64 1048576)] [(.int .i64)] fun r20 =>
  cond (decide (r20 < 0)) (
    C.ret (.bool true)
  ) (
    C.join (TL [.slice, (.int .i64)]) (embL [.slice, (.int .i64)]) (fun s13 => C.any fun _ =>
        C.ld .agg 1 (Addr.mk b3 0 none) fun v33 =>
        C.call n_laws_toStore [(.agg v33)] [.agg] fun r34 =>
        C.new ty_impl_Store (.agg (#[(.slice none 0 0)])) fun b10 =>
        C.st 1 (Addr.mk b10 0 none) (.agg r34) <|
        C.join (TL [.slice, (.int .i64)]) (embL [.slice, (.int .i64)]) (fun s23 => C.any fun _ =>
            C.join (TL []) (embL []) (fun s25 => C.any fun _ =>
                C.join (TL []) (embL []) (fun s30 => C.any fun _ =>
                    C.ld .agg 1 (Addr.mk b10 0 none) fun v58 =>
                    C.call n_laws_markStore [(.agg v58), (.int .i64 1)] [(.int .i64)] fun r60 =>
                    C.join (TL []) (embL []) (fun s34 => C.any fun _ =>
                        C.call n_laws_markKeyS [(.slice s23.1.a s23.1.n s23.1.c), (.int .i64 1)] [(.int .i64)] fun r76 =>
                        C.call n_laws_heldKeyS [(.slice s23.1.a s23.1.n s23.1.c), (.int .i64 1)] [(.int .i64)] fun r79 =>
                        cond (decide (r79 < 0)) (
                          C.ret (.bool false)
                        ) (
                          cond (r79 != r76) (
                            C.ret (.bool false)
                          ) (
                            C.join (TL [.slice, (.int .i64)]) (embL [.slice, (.int .i64)]) (fun s44 => C.any fun _ =>
                                C.join (TL []) (embL []) (fun s46 => C.any fun _ =>
                                    C.call n_laws_heldKeyS [(.slice s23.1.a s23.1.n s23.1.c), (.int .i64 1)] [(.int .i64)] fun r106 =>
                                    cond (decide (r106 < 0)) (
                                      C.ret (.bool false)
                                    ) (
                                      cond (r106 != r76) (
                                        C.ret (.bool false)
                                      ) (
                                        C.ret (.bool true)
                                      )
                                    )
                                  ) fun jt =>
                                C.call n_laws_eqKeyS [(.slice s44.1.a s44.1.n s44.1.c), (.slice s13.1.a s13.1.n s13.1.c)] [.bool] fun r97 =>
                                cond (!r97) (
                                  C.ret (.bool false)
                                ) (
                                  cond (s44.2 != s13.2) (
                                    C.ret (.bool false)
                                  ) (
                                    jt []
                                  )
                                )
                              ) fun jt =>
                            C.draw <|
                            C.ld .agg 1 (Addr.mk b3 0 none) fun v86 =>
                            C.ld .agg 32 (Addr.mk b4 0 none) fun v88 =>
                            C.ld .agg 32 (Addr.mk b5 0 none) fun v90 =>
                            C.call n_laws_toStore [(.agg v86)] [.agg] fun r87 =>
                            C.chk [⟨4, 32, (Addr.mk b5 0 none), .agg, v90⟩, ⟨2, 32, (Addr.mk b4 0 none), .agg, v88⟩] <|
                            C.call n_laws_toKey [(.agg v88)] [.agg] fun r89 =>
                            C.chk [⟨4, 32, (Addr.mk b5 0 none), .agg, v90⟩] <|
                            C.call n_laws_toKey [(.agg v90)] [.agg] fun r91 =>
                            C.call n_impl_LinkPath [(.agg r87), (.agg r89), (.agg r91)] [.slice, (.int .i64)] fun r92 =>
                            jt [(.slice r92.1.a r92.1.n r92.1.c), (.int .i64 r92.2)]
                          )
                        )
                      ) fun jt =>
                    cond (decide (r60 < 0)) (
                      C.ret (.bool false)
                    ) (
                      C.call n_laws_eqKeyS [(.slice s23.1.a s23.1.n s23.1.c), (.slice s13.1.a s13.1.n s13.1.c)] [.bool] fun r66 =>
                      cond (!r66) (
                        C.ret (.bool false)
                      ) (
                        cond (s23.2 != s13.2) (
                          C.ret (.bool false)
                        ) (
                          jt []
                        )
                      )
                    )
                  ) fun jt =>
                C.draw <|
                C.ld .agg 1 (Addr.mk b10 0 none) fun v53 =>
                C.ld .agg 1 (Addr.mk b3 0 none) fun v54 =>
                C.call n_laws_toStore [(.agg v54)] [.agg] fun r55 =>
                C.chk [⟨0, 1, (Addr.mk b10 0 none), .agg, v53⟩] <|
                C.call n_laws_eqStore [(.agg v53), (.agg r55)] [.bool] fun r56 =>
                cond (!r56) (
                  C.ret (.bool false)
                ) (
                  jt []
                )
              ) fun jt =>
            C.call n_laws_eqKeyS [(.slice s23.1.a s23.1.n s23.1.c), (.slice s13.1.a s13.1.n s13.1.c)] [.bool] fun r46 =>
            cond (!r46) (
              C.ret (.bool false)
            ) (
              cond (s23.2 != s13.2) (
                C.ret (.bool false)
              ) (
                jt []
              )
            )
          ) fun jt =>
        C.draw <|
        C.ld .agg 1 (Addr.mk b10 0 none) fun v36 =>
        C.ld .agg 32 (Addr.mk b4 0 none) fun v37 =>
        C.ld .agg 32 (Addr.mk b5 0 none) fun v39 =>
        C.call n_laws_toKey [(.agg v37)] [.agg] fun r38 =>
        C.chk [⟨3, 32, (Addr.mk b5 0 none), .agg, v39⟩, ⟨0, 1, (Addr.mk b10 0 none), .agg, v36⟩] <|
        C.call n_laws_toKey [(.agg v39)] [.agg] fun r40 =>
        C.chk [⟨0, 1, (Addr.mk b10 0 none), .agg, v36⟩] <|
        C.call n_impl_LinkPath [(.agg v36), (.agg r38), (.agg r40)] [.slice, (.int .i64)] fun r41 =>
        jt [(.slice r41.1.a r41.1.n r41.1.c), (.int .i64 r41.2)]
      ) fun jt =>
    C.draw <|
    C.ld .agg 1 (Addr.mk b3 0 none) fun v24 =>
    C.ld .agg 32 (Addr.mk b4 0 none) fun v26 =>
    C.ld .agg 32 (Addr.mk b5 0 none) fun v28 =>
    C.call n_laws_toStore [(.agg v24)] [.agg] fun r25 =>
    C.chk [⟨4, 32, (Addr.mk b5 0 none), .agg, v28⟩, ⟨2, 32, (Addr.mk b4 0 none), .agg, v26⟩] <|
    C.call n_laws_toKey [(.agg v26)] [.agg] fun r27 =>
    C.chk [⟨4, 32, (Addr.mk b5 0 none), .agg, v28⟩] <|
    C.call n_laws_toKey [(.agg v28)] [.agg] fun r29 =>
    C.call n_spec_LinkPath [(.agg r25), (.agg r27), (.agg r29)] [.slice, (.int .i64)] fun r30 =>
    jt [(.slice r30.1.a r30.1.n r30.1.c), (.int .i64 r30.2)]
  )
theorem laws_FnExactLinkPath_eq (C : Comb) (x0 : Array Value) (x1 : Array Value) (x2 : Array Value) : fT C Tryz.prog { loop := [], join := [(16, [(8, .slice), (9, (.int .i64))]), (22, [(11, .slice), (12, (.int .i64))]), (156, []), (171, []), (219, []), (73, [(16, .slice), (17, (.int .i64))]), (309, [])], anyOrder := [5, 7, 10, 24], pure := [] } n_laws_FnExactLinkPath [(.agg x0), (.agg x1), (.agg x2)] = laws_FnExactLinkPath C x0 x1 x2 := by kernel_rfl
theorem laws_FnExactLinkPath_calls {R : Value → World → Prop} {w : World} (x0 : Array Value) (x1 : Array Value) (x2 : Array Value) (h : (laws_FnExactLinkPath (real Tryz.prog R) x0 x1 x2 : World → Prop) w) :
    Calls Tryz.prog n_laws_FnExactLinkPath [(.agg x0), (.agg x1), (.agg x2)].toArray w fun e w' => ∃ v, e = .returned v ∧ R v w' := fT_sound mixed { loop := [], join := [(16, [(8, .slice), (9, (.int .i64))]), (22, [(11, .slice), (12, (.int .i64))]), (156, []), (171, []), (219, []), (73, [(16, .slice), (17, (.int .i64))]), (309, [])], anyOrder := [5, 7, 10, 24], pure := [] } (by rw [laws_FnExactLinkPath_eq]; exact h)

/-- laws.FnExactReachableFrom (8) -/
def laws_FnExactReachableFrom (C : Comb) (x0 : Array Value) (x1 : Sl) : C.St :=
  C.new ty_laws_Store (.agg x0) fun b2 =>
  C.ld .agg 1 (Addr.mk b2 0 none) fun v17 =>
  C.call n_laws_szStore [(.agg v17), (.int .i64 1048576)] [(.int .i64)] fun r19 =>
  cond (decide (r19 < 0)) (
    C.ret (.bool true)
  ) (
    C.call n_laws_szKeyS [(.slice x1.a x1.n x1.c), (.int .i64 r19)] [(.int .i64)] fun r24 =>
    cond (decide (r24 < 0)) (
      C.ret (.bool true)
    ) (
      C.ld .agg 1 (Addr.mk b2 0 none) fun v28 =>
      C.call n_laws_toStore [(.agg v28)] [.agg] fun r29 =>
      C.call n_laws_toKeyS [(.slice x1.a x1.n x1.c)] [.slice] fun r31 =>
      C.call n_spec_ReachableFrom [(.agg r29), (.slice r31.a r31.n r31.c)] [.slice, (.int .i64)] fun r32 =>
      C.ld .agg 1 (Addr.mk b2 0 none) fun v35 =>
      C.call n_laws_toStore [(.agg v35)] [.agg] fun r36 =>
      C.new ty_impl_Store (.agg (#[(.slice none 0 0)])) fun b8 =>
      C.st 1 (Addr.mk b8 0 none) (.agg r36) <|
      C.call n_laws_toKeyS [(.slice x1.a x1.n x1.c)] [.slice] fun r38 =>
      C.ld .agg 1 (Addr.mk b8 0 none) fun v40 =>
      C.call n_impl_ReachableFrom [(.agg v40), (.slice r38.a r38.n r38.c)] [.slice, (.int .i64)] fun r42 =>
      C.join (TL []) (embL []) (fun s16 => C.any fun _ =>
          C.join (TL []) (embL []) (fun s21 => C.any fun _ =>
              C.call n_laws_toKeyS [(.slice x1.a x1.n x1.c)] [.slice] fun r61 =>
              C.call n_laws_eqKeyS [(.slice r38.a r38.n r38.c), (.slice r61.a r61.n r61.c)] [.bool] fun r62 =>
              cond (!r62) (
                C.ret (.bool false)
              ) (
                C.ld .agg 1 (Addr.mk b8 0 none) fun v64 =>
                C.call n_laws_markStore [(.agg v64), (.int .i64 1)] [(.int .i64)] fun r66 =>
                C.call n_laws_markKeyS [(.slice r38.a r38.n r38.c), (.int .i64 r66)] [(.int .i64)] fun r69 =>
                C.join (TL []) (embL []) (fun s28 => C.any fun _ =>
                    C.call n_laws_markKeyS [(.slice r42.1.a r42.1.n r42.1.c), (.int .i64 1)] [(.int .i64)] fun r85 =>
                    C.call n_laws_heldKeyS [(.slice r42.1.a r42.1.n r42.1.c), (.int .i64 1)] [(.int .i64)] fun r88 =>
                    cond (decide (r88 < 0)) (
                      C.ret (.bool false)
                    ) (
                      cond (r88 != r85) (
                        C.ret (.bool false)
                      ) (
                        C.ld .agg 1 (Addr.mk b2 0 none) fun v95 =>
                        C.call n_laws_toStore [(.agg v95)] [.agg] fun r96 =>
                        C.call n_laws_toKeyS [(.slice x1.a x1.n x1.c)] [.slice] fun r98 =>
                        C.call n_impl_ReachableFrom [(.agg r96), (.slice r98.a r98.n r98.c)] [.slice, (.int .i64)] fun r99 =>
                        C.join (TL []) (embL []) (fun s36 => C.any fun _ =>
                            C.call n_laws_heldKeyS [(.slice r42.1.a r42.1.n r42.1.c), (.int .i64 1)] [(.int .i64)] fun r113 =>
                            cond (decide (r113 < 0)) (
                              C.ret (.bool false)
                            ) (
                              cond (r113 != r85) (
                                C.ret (.bool false)
                              ) (
                                C.ret (.bool true)
                              )
                            )
                          ) fun jt =>
                        C.call n_laws_eqKeyS [(.slice r99.1.a r99.1.n r99.1.c), (.slice r32.1.a r32.1.n r32.1.c)] [.bool] fun r104 =>
                        cond (!r104) (
                          C.ret (.bool false)
                        ) (
                          cond (r99.2 != r32.2) (
                            C.ret (.bool false)
                          ) (
                            jt []
                          )
                        )
                      )
                    )
                  ) fun jt =>
                cond (decide (r69 < 0)) (
                  C.ret (.bool false)
                ) (
                  C.call n_laws_eqKeyS [(.slice r42.1.a r42.1.n r42.1.c), (.slice r32.1.a r32.1.n r32.1.c)] [.bool] fun r75 =>
                  cond (!r75) (
                    C.ret (.bool false)
                  ) (
                    cond (r42.2 != r32.2) (
                      C.ret (.bool false)
                    ) (
                      jt []
                    )
                  )
                )
              )
            ) fun jt =>
          C.draw <|
          C.ld .agg 1 (Addr.mk b8 0 none) fun v54 =>
          C.ld .agg 1 (Addr.mk b2 0 none) fun v55 =>
          C.call n_laws_toStore [(.agg v55)] [.agg] fun r56 =>
          C.chk [⟨0, 1, (Addr.mk b8 0 none), .agg, v54⟩] <|
          C.call n_laws_eqStore [(.agg v54), (.agg r56)] [.bool] fun r57 =>
          cond (!r57) (
            C.ret (.bool false)
          ) (
            jt []
          )
        ) fun jt =>
      C.call n_laws_eqKeyS [(.slice r42.1.a r42.1.n r42.1.c), (.slice r32.1.a r32.1.n r32.1.c)] [.bool] fun r47 =>
      cond (!r47) (
        C.ret (.bool false)
      ) (
        cond (r42.2 != r32.2) (
          C.ret (.bool false)
        ) (
          jt []
        )
      )
    )
  )
theorem laws_FnExactReachableFrom_eq (C : Comb) (x0 : Array Value) (x1 : Sl) : fT C Tryz.prog { loop := [], join := [(159, []), (174, []), (246, []), (330, [])], anyOrder := [14], pure := [] } n_laws_FnExactReachableFrom [(.agg x0), (.slice x1.a x1.n x1.c)] = laws_FnExactReachableFrom C x0 x1 := by kernel_rfl
theorem laws_FnExactReachableFrom_calls {R : Value → World → Prop} {w : World} (x0 : Array Value) (x1 : Sl) (h : (laws_FnExactReachableFrom (real Tryz.prog R) x0 x1 : World → Prop) w) :
    Calls Tryz.prog n_laws_FnExactReachableFrom [(.agg x0), (.slice x1.a x1.n x1.c)].toArray w fun e w' => ∃ v, e = .returned v ∧ R v w' := fT_sound mixed { loop := [], join := [(159, []), (174, []), (246, []), (330, [])], anyOrder := [14], pure := [] } (by rw [laws_FnExactReachableFrom_eq]; exact h)

/-- laws.FnExactPutFolder (9) -/
def laws_FnExactPutFolder (C : Comb) (x0 : Array Value) (x1 : Sl) : C.St :=
  C.new ty_laws_Store (.agg x0) fun b2 =>
  C.ld .agg 1 (Addr.mk b2 0 none) fun v20 =>
  C.call n_laws_szStore [(.agg v20), (.int .i64 1048576)] [(.int .i64)] fun r22 =>
  cond (decide (r22 < 0)) (
    C.ret (.bool true)
  ) (
    C.call n_laws_szKeyS [(.slice x1.a x1.n x1.c), (.int .i64 r22)] [(.int .i64)] fun r27 =>
    cond (decide (r27 < 0)) (
      C.ret (.bool true)
    ) (
      C.ld .agg 1 (Addr.mk b2 0 none) fun v31 =>
      C.call n_laws_toStore [(.agg v31)] [.agg] fun r32 =>
      C.call n_laws_toKeyS [(.slice x1.a x1.n x1.c)] [.slice] fun r34 =>
      C.call n_spec_PutFolder [(.agg r32), (.slice r34.a r34.n r34.c)] [.agg, .agg, (.int .i64)] fun r35 =>
      C.new ty_impl_Store (.agg (#[(.slice none 0 0)])) fun b6 =>
      C.new ty_impl_Key (.agg (Array.replicate 32 (.int .u8 0))) fun b7 =>
      C.st 1 (Addr.mk b6 0 none) (.agg r35.1) <|
      C.st 32 (Addr.mk b7 0 none) (.agg r35.2.1) <|
      C.ld .agg 1 (Addr.mk b2 0 none) fun v39 =>
      C.call n_laws_toStore [(.agg v39)] [.agg] fun r40 =>
      C.new ty_impl_Store (.agg (#[(.slice none 0 0)])) fun b9 =>
      C.st 1 (Addr.mk b9 0 none) (.agg r40) <|
      C.call n_laws_toKeyS [(.slice x1.a x1.n x1.c)] [.slice] fun r42 =>
      C.ld .agg 1 (Addr.mk b9 0 none) fun v44 =>
      C.call n_impl_PutFolder [(.agg v44), (.slice r42.a r42.n r42.c)] [.agg, .agg, (.int .i64)] fun r46 =>
      C.new ty_impl_Store (.agg (#[(.slice none 0 0)])) fun b11 =>
      C.new ty_impl_Key (.agg (Array.replicate 32 (.int .u8 0))) fun b12 =>
      C.st 1 (Addr.mk b11 0 none) (.agg r46.1) <|
      C.st 32 (Addr.mk b12 0 none) (.agg r46.2.1) <|
      C.join (TL []) (embL []) (fun s25 => C.any fun _ =>
          C.join (TL []) (embL []) (fun s30 => C.any fun _ =>
              C.call n_laws_toKeyS [(.slice x1.a x1.n x1.c)] [.slice] fun r72 =>
              C.call n_laws_eqKeyS [(.slice r42.a r42.n r42.c), (.slice r72.a r72.n r72.c)] [.bool] fun r73 =>
              cond (!r73) (
                C.ret (.bool false)
              ) (
                C.ld .agg 1 (Addr.mk b9 0 none) fun v75 =>
                C.call n_laws_markStore [(.agg v75), (.int .i64 1)] [(.int .i64)] fun r77 =>
                C.call n_laws_markKeyS [(.slice r42.a r42.n r42.c), (.int .i64 r77)] [(.int .i64)] fun r80 =>
                C.join (TL []) (embL []) (fun s42 => C.any fun _ =>
                    C.ld .agg 1 (Addr.mk b11 0 none) fun v100 =>
                    C.call n_laws_markStore [(.agg v100), (.int .i64 1)] [(.int .i64)] fun r102 =>
                    C.ld .agg 1 (Addr.mk b11 0 none) fun v103 =>
                    C.call n_laws_heldStore [(.agg v103), (.int .i64 1)] [(.int .i64)] fun r105 =>
                    cond (decide (r105 < 0)) (
                      C.ret (.bool false)
                    ) (
                      cond (r105 != r102) (
                        C.ret (.bool false)
                      ) (
                        C.ld .agg 1 (Addr.mk b2 0 none) fun v112 =>
                        C.call n_laws_toStore [(.agg v112)] [.agg] fun r113 =>
                        C.call n_laws_toKeyS [(.slice x1.a x1.n x1.c)] [.slice] fun r115 =>
                        C.call n_impl_PutFolder [(.agg r113), (.slice r115.a r115.n r115.c)] [.agg, .agg, (.int .i64)] fun r116 =>
                        C.new ty_impl_Store (.agg (#[(.slice none 0 0)])) fun b17 =>
                        C.new ty_impl_Key (.agg (Array.replicate 32 (.int .u8 0))) fun b18 =>
                        C.st 1 (Addr.mk b17 0 none) (.agg r116.1) <|
                        C.st 32 (Addr.mk b18 0 none) (.agg r116.2.1) <|
                        C.join (TL []) (embL []) (fun s59 => C.any fun _ =>
                            C.ld .agg 1 (Addr.mk b11 0 none) fun v135 =>
                            C.call n_laws_heldStore [(.agg v135), (.int .i64 1)] [(.int .i64)] fun r137 =>
                            cond (decide (r137 < 0)) (
                              C.ret (.bool false)
                            ) (
                              cond (r137 != r102) (
                                C.ret (.bool false)
                              ) (
                                C.ret (.bool true)
                              )
                            )
                          ) fun jt =>
                        C.ld .agg 1 (Addr.mk b17 0 none) fun v120 =>
                        C.ld .agg 1 (Addr.mk b6 0 none) fun v121 =>
                        C.call n_laws_eqStore [(.agg v120), (.agg v121)] [.bool] fun r122 =>
                        cond (!r122) (
                          C.ret (.bool false)
                        ) (
                          C.ld .agg 32 (Addr.mk b18 0 none) fun v125 =>
                          C.ld .agg 32 (Addr.mk b7 0 none) fun v126 =>
                          C.call n_laws_eqKey [(.agg v125), (.agg v126)] [.bool] fun r127 =>
                          cond (!r127) (
                            C.ret (.bool false)
                          ) (
                            cond (r116.2.2 != r35.2.2) (
                              C.ret (.bool false)
                            ) (
                              jt []
                            )
                          )
                        )
                      )
                    )
                  ) fun jt =>
                cond (decide (r80 < 0)) (
                  C.ret (.bool false)
                ) (
                  C.ld .agg 1 (Addr.mk b11 0 none) fun v84 =>
                  C.ld .agg 1 (Addr.mk b6 0 none) fun v85 =>
                  C.call n_laws_eqStore [(.agg v84), (.agg v85)] [.bool] fun r86 =>
                  cond (!r86) (
                    C.ret (.bool false)
                  ) (
                    C.ld .agg 32 (Addr.mk b12 0 none) fun v90 =>
                    C.ld .agg 32 (Addr.mk b7 0 none) fun v91 =>
                    C.call n_laws_eqKey [(.agg v90), (.agg v91)] [.bool] fun r92 =>
                    cond (!r92) (
                      C.ret (.bool false)
                    ) (
                      cond (r46.2.2 != r35.2.2) (
                        C.ret (.bool false)
                      ) (
                        jt []
                      )
                    )
                  )
                )
              )
            ) fun jt =>
          C.draw <|
          C.ld .agg 1 (Addr.mk b9 0 none) fun v65 =>
          C.ld .agg 1 (Addr.mk b2 0 none) fun v66 =>
          C.call n_laws_toStore [(.agg v66)] [.agg] fun r67 =>
          C.chk [⟨0, 1, (Addr.mk b9 0 none), .agg, v65⟩] <|
          C.call n_laws_eqStore [(.agg v65), (.agg r67)] [.bool] fun r68 =>
          cond (!r68) (
            C.ret (.bool false)
          ) (
            jt []
          )
        ) fun jt =>
      C.ld .agg 1 (Addr.mk b11 0 none) fun v50 =>
      C.ld .agg 1 (Addr.mk b6 0 none) fun v51 =>
      C.call n_laws_eqStore [(.agg v50), (.agg v51)] [.bool] fun r52 =>
      cond (!r52) (
        C.ret (.bool false)
      ) (
        C.ld .agg 32 (Addr.mk b12 0 none) fun v55 =>
        C.ld .agg 32 (Addr.mk b7 0 none) fun v56 =>
        C.call n_laws_eqKey [(.agg v55), (.agg v56)] [.bool] fun r57 =>
        cond (!r57) (
          C.ret (.bool false)
        ) (
          cond (r46.2.2 != r35.2.2) (
            C.ret (.bool false)
          ) (
            jt []
          )
        )
      )
    )
  )
theorem laws_FnExactPutFolder_eq (C : Comb) (x0 : Array Value) (x1 : Sl) : fT C Tryz.prog { loop := [], join := [(192, []), (207, []), (297, []), (402, [])], anyOrder := [14], pure := [] } n_laws_FnExactPutFolder [(.agg x0), (.slice x1.a x1.n x1.c)] = laws_FnExactPutFolder C x0 x1 := by kernel_rfl
theorem laws_FnExactPutFolder_calls {R : Value → World → Prop} {w : World} (x0 : Array Value) (x1 : Sl) (h : (laws_FnExactPutFolder (real Tryz.prog R) x0 x1 : World → Prop) w) :
    Calls Tryz.prog n_laws_FnExactPutFolder [(.agg x0), (.slice x1.a x1.n x1.c)].toArray w fun e w' => ∃ v, e = .returned v ∧ R v w' := fT_sound mixed { loop := [], join := [(192, []), (207, []), (297, []), (402, [])], anyOrder := [14], pure := [] } (by rw [laws_FnExactPutFolder_eq]; exact h)

/-- laws.FnExactMissingFrom (10) -/
def laws_FnExactMissingFrom (C : Comb) (x0 : Array Value) (x1 : Sl) : C.St :=
  C.new ty_laws_Store (.agg x0) fun b2 =>
  C.ld .agg 1 (Addr.mk b2 0 none) fun v17 =>
  C.call n_laws_szStore [(.agg v17), (.int .i64 1048576)] [(.int .i64)] fun r19 =>
  cond (decide (r19 < 0)) (
    C.ret (.bool true)
  ) (
    C.call n_laws_szKeyS [(.slice x1.a x1.n x1.c), (.int .i64 r19)] [(.int .i64)] fun r24 =>
    cond (decide (r24 < 0)) (
      C.ret (.bool true)
    ) (
      C.ld .agg 1 (Addr.mk b2 0 none) fun v28 =>
      C.call n_laws_toStore [(.agg v28)] [.agg] fun r29 =>
      C.call n_laws_toKeyS [(.slice x1.a x1.n x1.c)] [.slice] fun r31 =>
      C.call n_spec_MissingFrom [(.agg r29), (.slice r31.a r31.n r31.c)] [.slice, (.int .i64)] fun r32 =>
      C.ld .agg 1 (Addr.mk b2 0 none) fun v35 =>
      C.call n_laws_toStore [(.agg v35)] [.agg] fun r36 =>
      C.new ty_impl_Store (.agg (#[(.slice none 0 0)])) fun b8 =>
      C.st 1 (Addr.mk b8 0 none) (.agg r36) <|
      C.call n_laws_toKeyS [(.slice x1.a x1.n x1.c)] [.slice] fun r38 =>
      C.ld .agg 1 (Addr.mk b8 0 none) fun v40 =>
      C.call n_impl_MissingFrom [(.agg v40), (.slice r38.a r38.n r38.c)] [.slice, (.int .i64)] fun r42 =>
      C.join (TL []) (embL []) (fun s16 => C.any fun _ =>
          C.join (TL []) (embL []) (fun s21 => C.any fun _ =>
              C.call n_laws_toKeyS [(.slice x1.a x1.n x1.c)] [.slice] fun r61 =>
              C.call n_laws_eqKeyS [(.slice r38.a r38.n r38.c), (.slice r61.a r61.n r61.c)] [.bool] fun r62 =>
              cond (!r62) (
                C.ret (.bool false)
              ) (
                C.ld .agg 1 (Addr.mk b8 0 none) fun v64 =>
                C.call n_laws_markStore [(.agg v64), (.int .i64 1)] [(.int .i64)] fun r66 =>
                C.call n_laws_markKeyS [(.slice r38.a r38.n r38.c), (.int .i64 r66)] [(.int .i64)] fun r69 =>
                C.join (TL []) (embL []) (fun s28 => C.any fun _ =>
                    C.call n_laws_markKeyS [(.slice r42.1.a r42.1.n r42.1.c), (.int .i64 1)] [(.int .i64)] fun r85 =>
                    C.call n_laws_heldKeyS [(.slice r42.1.a r42.1.n r42.1.c), (.int .i64 1)] [(.int .i64)] fun r88 =>
                    cond (decide (r88 < 0)) (
                      C.ret (.bool false)
                    ) (
                      cond (r88 != r85) (
                        C.ret (.bool false)
                      ) (
                        C.ld .agg 1 (Addr.mk b2 0 none) fun v95 =>
                        C.call n_laws_toStore [(.agg v95)] [.agg] fun r96 =>
                        C.call n_laws_toKeyS [(.slice x1.a x1.n x1.c)] [.slice] fun r98 =>
                        C.call n_impl_MissingFrom [(.agg r96), (.slice r98.a r98.n r98.c)] [.slice, (.int .i64)] fun r99 =>
                        C.join (TL []) (embL []) (fun s36 => C.any fun _ =>
                            C.call n_laws_heldKeyS [(.slice r42.1.a r42.1.n r42.1.c), (.int .i64 1)] [(.int .i64)] fun r113 =>
                            cond (decide (r113 < 0)) (
                              C.ret (.bool false)
                            ) (
                              cond (r113 != r85) (
                                C.ret (.bool false)
                              ) (
                                C.ret (.bool true)
                              )
                            )
                          ) fun jt =>
                        C.call n_laws_eqKeyS [(.slice r99.1.a r99.1.n r99.1.c), (.slice r32.1.a r32.1.n r32.1.c)] [.bool] fun r104 =>
                        cond (!r104) (
                          C.ret (.bool false)
                        ) (
                          cond (r99.2 != r32.2) (
                            C.ret (.bool false)
                          ) (
                            jt []
                          )
                        )
                      )
                    )
                  ) fun jt =>
                cond (decide (r69 < 0)) (
                  C.ret (.bool false)
                ) (
                  C.call n_laws_eqKeyS [(.slice r42.1.a r42.1.n r42.1.c), (.slice r32.1.a r32.1.n r32.1.c)] [.bool] fun r75 =>
                  cond (!r75) (
                    C.ret (.bool false)
                  ) (
                    cond (r42.2 != r32.2) (
                      C.ret (.bool false)
                    ) (
                      jt []
                    )
                  )
                )
              )
            ) fun jt =>
          C.draw <|
          C.ld .agg 1 (Addr.mk b8 0 none) fun v54 =>
          C.ld .agg 1 (Addr.mk b2 0 none) fun v55 =>
          C.call n_laws_toStore [(.agg v55)] [.agg] fun r56 =>
          C.chk [⟨0, 1, (Addr.mk b8 0 none), .agg, v54⟩] <|
          C.call n_laws_eqStore [(.agg v54), (.agg r56)] [.bool] fun r57 =>
          cond (!r57) (
            C.ret (.bool false)
          ) (
            jt []
          )
        ) fun jt =>
      C.call n_laws_eqKeyS [(.slice r42.1.a r42.1.n r42.1.c), (.slice r32.1.a r32.1.n r32.1.c)] [.bool] fun r47 =>
      cond (!r47) (
        C.ret (.bool false)
      ) (
        cond (r42.2 != r32.2) (
          C.ret (.bool false)
        ) (
          jt []
        )
      )
    )
  )
theorem laws_FnExactMissingFrom_eq (C : Comb) (x0 : Array Value) (x1 : Sl) : fT C Tryz.prog { loop := [], join := [(159, []), (174, []), (246, []), (330, [])], anyOrder := [14], pure := [] } n_laws_FnExactMissingFrom [(.agg x0), (.slice x1.a x1.n x1.c)] = laws_FnExactMissingFrom C x0 x1 := by kernel_rfl
theorem laws_FnExactMissingFrom_calls {R : Value → World → Prop} {w : World} (x0 : Array Value) (x1 : Sl) (h : (laws_FnExactMissingFrom (real Tryz.prog R) x0 x1 : World → Prop) w) :
    Calls Tryz.prog n_laws_FnExactMissingFrom [(.agg x0), (.slice x1.a x1.n x1.c)].toArray w fun e w' => ∃ v, e = .returned v ∧ R v w' := fT_sound mixed { loop := [], join := [(159, []), (174, []), (246, []), (330, [])], anyOrder := [14], pure := [] } (by rw [laws_FnExactMissingFrom_eq]; exact h)

/-- laws.szStore (11) -/
def laws_szStore (C : Comb) (x0 : Array Value) (x1 : Int) : C.St :=
  C.new ty_laws_Store (.agg x0) fun b2 =>
  C.ld .slice 1 ((Addr.mk b2 0 none).add 0) fun v6 =>
  C.call n_laws_szBlobS [(.slice v6.a v6.n v6.c), (.int .i64 x1)] [(.int .i64)] fun r8 =>
  cond (decide (r8 < 0)) (
    C.ret (.int .i64 (-1))
  ) (
    C.ret (.int .i64 r8)
  )
theorem laws_szStore_eq (C : Comb) (x0 : Array Value) (x1 : Int) : fT C Tryz.prog { loop := [], join := [], anyOrder := [], pure := [] } n_laws_szStore [(.agg x0), (.int .i64 x1)] = laws_szStore C x0 x1 := by kernel_rfl
theorem laws_szStore_calls {R : Value → World → Prop} {w : World} (x0 : Array Value) (x1 : Int) (h : (laws_szStore (real Tryz.prog R) x0 x1 : World → Prop) w) :
    Calls Tryz.prog n_laws_szStore [(.agg x0), (.int .i64 x1)].toArray w fun e w' => ∃ v, e = .returned v ∧ R v w' := fT_sound mixed { loop := [], join := [], anyOrder := [], pure := [] } (by rw [laws_szStore_eq]; exact h)

/-- spec.LinkCounts (12) -/
def spec_LinkCounts (C : Comb) (x0 : Array Value) : C.St :=
  C.new ty_impl_Store (.agg x0) fun b1 =>
  C.call n_spec_l05Open [(.pointer (some (Addr.mk b1 0 none)))] [.optr, .bool] fun r7 =>
  cond (!r7.2) (
    C.sem (Instr.buildSlice ty_sl_int64 0 #[]) .slice fun y12 =>
    C.ret (.tuple #[(.slice y12.a y12.n y12.c), (.int .i64 1)])
  ) (
    C.call n_ptr_spec_l05Store_counts [(.pointer r7.1)] [.slice] fun r14 =>
    C.ret (.tuple #[(.slice r14.a r14.n r14.c), (.int .i64 0)])
  )
theorem spec_LinkCounts_eq (C : Comb) (x0 : Array Value) : fT C Tryz.prog { loop := [], join := [], anyOrder := [], pure := [] } n_spec_LinkCounts [(.agg x0)] = spec_LinkCounts C x0 := by kernel_rfl
theorem spec_LinkCounts_calls {R : Value → World → Prop} {w : World} (x0 : Array Value) (h : (spec_LinkCounts (real Tryz.prog R) x0 : World → Prop) w) :
    Calls Tryz.prog n_spec_LinkCounts [(.agg x0)].toArray w fun e w' => ∃ v, e = .returned v ∧ R v w' := fT_sound mixed { loop := [], join := [], anyOrder := [], pure := [] } (by rw [spec_LinkCounts_eq]; exact h)

/-- laws.toStore (13) -/
def laws_toStore (C : Comb) (x0 : Array Value) : C.St :=
  C.new ty_laws_Store (.agg x0) fun b1 =>
  C.new ty_impl_Store (.agg (#[(.slice none 0 0)])) fun b2 =>
  C.new ty_impl_Store (.agg (#[(.slice none 0 0)])) fun b3 =>
  C.ld .slice 1 ((Addr.mk b1 0 none).add 0) fun v5 =>
  C.call n_laws_toBlobS [(.slice v5.a v5.n v5.c)] [.slice] fun r6 =>
  C.st 1 ((Addr.mk b3 0 none).add 0) (.slice r6.a r6.n r6.c) <|
  C.ld .agg 1 (Addr.mk b3 0 none) fun v8 =>
  C.st 1 (Addr.mk b2 0 none) (.agg v8) <|
  C.ld .agg 1 (Addr.mk b2 0 none) fun z7 =>
  C.ret (.agg z7)
theorem laws_toStore_eq (C : Comb) (x0 : Array Value) : fT C Tryz.prog { loop := [], join := [], anyOrder := [], pure := [] } n_laws_toStore [(.agg x0)] = laws_toStore C x0 := by kernel_rfl
theorem laws_toStore_calls {R : Value → World → Prop} {w : World} (x0 : Array Value) (h : (laws_toStore (real Tryz.prog R) x0 : World → Prop) w) :
    Calls Tryz.prog n_laws_toStore [(.agg x0)].toArray w fun e w' => ∃ v, e = .returned v ∧ R v w' := fT_sound mixed { loop := [], join := [], anyOrder := [], pure := [] } (by rw [laws_toStore_eq]; exact h)

/-- impl.LinkCounts (14) -/
def impl_LinkCounts (C : Comb) (x0 : Array Value) : C.St :=
  C.new ty_impl_Store (.agg x0) fun b1 =>
  C.ld .agg 1 (Addr.mk b1 0 none) fun v7 =>
  C.call n_impl_newShop [(.agg v7)] [.optr, .bool] fun r8 =>
  cond (!r8.2) (
    C.ret (.tuple #[(.slice none 0 0), (.int .i64 1)])
  ) (
    C.call n_ptr_impl_shop_counts [(.pointer r8.1)] [.slice] fun r14 =>
    C.ret (.tuple #[(.slice r14.a r14.n r14.c), (.int .i64 0)])
  )
theorem impl_LinkCounts_eq (C : Comb) (x0 : Array Value) : fT C Tryz.prog { loop := [], join := [], anyOrder := [], pure := [] } n_impl_LinkCounts [(.agg x0)] = impl_LinkCounts C x0 := by kernel_rfl
theorem impl_LinkCounts_calls {R : Value → World → Prop} {w : World} (x0 : Array Value) (h : (impl_LinkCounts (real Tryz.prog R) x0 : World → Prop) w) :
    Calls Tryz.prog n_impl_LinkCounts [(.agg x0)].toArray w fun e w' => ∃ v, e = .returned v ∧ R v w' := fT_sound mixed { loop := [], join := [], anyOrder := [], pure := [] } (by rw [impl_LinkCounts_eq]; exact h)

/-- laws.eqInt64S (15) -/
def laws_eqInt64S (C : Comb) (x0 : Sl) (x1 : Sl) : C.St :=
  cond ((x0.n : Int) != (x1.n : Int)) (
    C.ret (.bool false)
  ) (
    C.loop (TL [(.int .i64)]) (embL [(.int .i64)]) [(.int .i64 0)] fun s1 ct1 => C.any fun _ =>
    cond (decide (s1 < (x0.n : Int))) (
      C.draw <|
      C.ix x0.a x0.n 1 s1 fun p19 =>
      C.ld (.int .i64) 1 p19 fun v20 =>
      C.ix x1.a x1.n 1 s1 fun p23 =>
      C.ld (.int .i64) 1 p23 fun v24 =>
      cond (v20 != v24) (
        C.ret (.bool false)
      ) (
        ct1 [(.int .i64 (IntKind.wrap .i64 (s1 + 1)))]
      )
    ) (
      C.ret (.bool true)
    )
  )
theorem laws_eqInt64S_eq (C : Comb) (x0 : Sl) (x1 : Sl) : fT C Tryz.prog { loop := [(4, [(5, (.int .i64))])], join := [], anyOrder := [], pure := [] } n_laws_eqInt64S [(.slice x0.a x0.n x0.c), (.slice x1.a x1.n x1.c)] = laws_eqInt64S C x0 x1 := by kernel_rfl
theorem laws_eqInt64S_calls {R : Value → World → Prop} {w : World} (x0 : Sl) (x1 : Sl) (h : (laws_eqInt64S (real Tryz.prog R) x0 x1 : World → Prop) w) :
    Calls Tryz.prog n_laws_eqInt64S [(.slice x0.a x0.n x0.c), (.slice x1.a x1.n x1.c)].toArray w fun e w' => ∃ v, e = .returned v ∧ R v w' := fT_sound mixed { loop := [(4, [(5, (.int .i64))])], join := [], anyOrder := [], pure := [] } (by rw [laws_eqInt64S_eq]; exact h)

/-- laws.eqStore (16) -/
def laws_eqStore (C : Comb) (x0 : Array Value) (x1 : Array Value) : C.St :=
  C.new ty_impl_Store (.agg x0) fun b2 =>
  C.new ty_impl_Store (.agg x1) fun b3 =>
  C.ld .slice 1 ((Addr.mk b2 0 none).add 0) fun v6 =>
  C.ld .slice 1 ((Addr.mk b3 0 none).add 0) fun v8 =>
  C.call n_laws_eqBlobS [(.slice v6.a v6.n v6.c), (.slice v8.a v8.n v8.c)] [.bool] fun r9 =>
  cond (!r9) (
    C.ret (.bool false)
  ) (
    C.ret (.bool true)
  )
theorem laws_eqStore_eq (C : Comb) (x0 : Array Value) (x1 : Array Value) : fT C Tryz.prog { loop := [], join := [], anyOrder := [], pure := [] } n_laws_eqStore [(.agg x0), (.agg x1)] = laws_eqStore C x0 x1 := by kernel_rfl
theorem laws_eqStore_calls {R : Value → World → Prop} {w : World} (x0 : Array Value) (x1 : Array Value) (h : (laws_eqStore (real Tryz.prog R) x0 x1 : World → Prop) w) :
    Calls Tryz.prog n_laws_eqStore [(.agg x0), (.agg x1)].toArray w fun e w' => ∃ v, e = .returned v ∧ R v w' := fT_sound mixed { loop := [], join := [], anyOrder := [], pure := [] } (by rw [laws_eqStore_eq]; exact h)

/-- laws.markStore (17) -/
def laws_markStore (C : Comb) (x0 : Array Value) (x1 : Int) : C.St :=
  C.new ty_impl_Store (.agg x0) fun b2 =>
  C.ld .slice 1 ((Addr.mk b2 0 none).add 0) fun v6 =>
  C.call n_laws_markBlobS [(.slice v6.a v6.n v6.c), (.int .i64 x1)] [(.int .i64)] fun r8 =>
  C.ret (.int .i64 r8)
theorem laws_markStore_eq (C : Comb) (x0 : Array Value) (x1 : Int) : fT C Tryz.prog { loop := [], join := [], anyOrder := [], pure := [] } n_laws_markStore [(.agg x0), (.int .i64 x1)] = laws_markStore C x0 x1 := by kernel_rfl
theorem laws_markStore_calls {R : Value → World → Prop} {w : World} (x0 : Array Value) (x1 : Int) (h : (laws_markStore (real Tryz.prog R) x0 x1 : World → Prop) w) :
    Calls Tryz.prog n_laws_markStore [(.agg x0), (.int .i64 x1)].toArray w fun e w' => ∃ v, e = .returned v ∧ R v w' := fT_sound mixed { loop := [], join := [], anyOrder := [], pure := [] } (by rw [laws_markStore_eq]; exact h)

/-- laws.markInt64S (18) -/
def laws_markInt64S (C : Comb) (x0 : Sl) (x1 : Int) : C.St :=
  C.loop (TL [(.int .i64), (.int .i64)]) (embL [(.int .i64), (.int .i64)]) [(.int .i64 x1), (.int .i64 0)] fun s1 ct1 => C.any fun _ =>
  cond (decide (s1.2 < (x0.n : Int))) (
    C.ix x0.a x0.n 1 s1.2 fun p15 =>
    C.st 1 p15 (.int .i64 s1.1) <|
    ct1 [(.int .i64 (IntKind.wrap .i64 (s1.1 + 1))), (.int .i64 (IntKind.wrap .i64 (s1.2 + 1)))]
  ) (
    C.ret (.int .i64 s1.1)
  )
theorem laws_markInt64S_eq (C : Comb) (x0 : Sl) (x1 : Int) : fT C Tryz.prog { loop := [(2, [(1, (.int .i64)), (5, (.int .i64))])], join := [], anyOrder := [], pure := [] } n_laws_markInt64S [(.slice x0.a x0.n x0.c), (.int .i64 x1)] = laws_markInt64S C x0 x1 := by kernel_rfl
theorem laws_markInt64S_calls {R : Value → World → Prop} {w : World} (x0 : Sl) (x1 : Int) (h : (laws_markInt64S (real Tryz.prog R) x0 x1 : World → Prop) w) :
    Calls Tryz.prog n_laws_markInt64S [(.slice x0.a x0.n x0.c), (.int .i64 x1)].toArray w fun e w' => ∃ v, e = .returned v ∧ R v w' := fT_sound mixed { loop := [(2, [(1, (.int .i64)), (5, (.int .i64))])], join := [], anyOrder := [], pure := [] } (by rw [laws_markInt64S_eq]; exact h)

/-- laws.heldInt64S (19) -/
def laws_heldInt64S (C : Comb) (x0 : Sl) (x1 : Int) : C.St :=
  C.loop (TL [(.int .i64), (.int .i64)]) (embL [(.int .i64), (.int .i64)]) [(.int .i64 x1), (.int .i64 0)] fun s1 ct1 => C.any fun _ =>
  cond (decide (s1.2 < (x0.n : Int))) (
    C.ix x0.a x0.n 1 s1.2 fun p14 =>
    C.ld (.int .i64) 1 p14 fun v15 =>
    cond (v15 != s1.1) (
      C.ret (.int .i64 (-1))
    ) (
      ct1 [(.int .i64 (IntKind.wrap .i64 (s1.1 + 1))), (.int .i64 (IntKind.wrap .i64 (s1.2 + 1)))]
    )
  ) (
    C.ret (.int .i64 s1.1)
  )
theorem laws_heldInt64S_eq (C : Comb) (x0 : Sl) (x1 : Int) : fT C Tryz.prog { loop := [(2, [(1, (.int .i64)), (5, (.int .i64))])], join := [], anyOrder := [], pure := [] } n_laws_heldInt64S [(.slice x0.a x0.n x0.c), (.int .i64 x1)] = laws_heldInt64S C x0 x1 := by kernel_rfl
theorem laws_heldInt64S_calls {R : Value → World → Prop} {w : World} (x0 : Sl) (x1 : Int) (h : (laws_heldInt64S (real Tryz.prog R) x0 x1 : World → Prop) w) :
    Calls Tryz.prog n_laws_heldInt64S [(.slice x0.a x0.n x0.c), (.int .i64 x1)].toArray w fun e w' => ∃ v, e = .returned v ∧ R v w' := fT_sound mixed { loop := [(2, [(1, (.int .i64)), (5, (.int .i64))])], join := [], anyOrder := [], pure := [] } (by rw [laws_heldInt64S_eq]; exact h)

/-- spec.RootsOf (20) -/
def spec_RootsOf (C : Comb) (x0 : Array Value) : C.St :=
  C.new ty_impl_Store (.agg x0) fun b1 =>
  C.call n_spec_l05Open [(.pointer (some (Addr.mk b1 0 none)))] [.optr, .bool] fun r10 =>
  cond (!r10.2) (
    C.sem (Instr.buildSlice ty_sl_impl_Key 0 #[]) .slice fun y15 =>
    C.ret (.tuple #[(.slice y15.a y15.n y15.c), (.int .i64 1)])
  ) (
    C.call n_ptr_spec_l05Store_counts [(.pointer r10.1)] [.slice] fun r17 =>
    C.sem (Instr.buildSlice ty_sl_impl_Key 0 #[]) .slice fun y18 =>
    C.loop (TL [.slice, (.int .i64)]) (embL [.slice, (.int .i64)]) [(.slice y18.a y18.n y18.c), (.int .i64 0)] fun s6 ct6 => C.any fun _ =>
    cond (decide (s6.2 < (r17.n : Int))) (
      C.ix r17.a r17.n 1 s6.2 fun p27 =>
      C.ld (.int .i64) 1 p27 fun v28 =>
      cond (v28 == 0) (
        dpT C r10.1 fun a9 =>
        C.ld .slice 1 (a9.add 1) fun v34 =>
        C.ix v34.a v34.n 32 s6.2 fun p36 =>
        C.ld .agg 32 p36 fun v37 =>
        C.sem (Instr.buildSlice ty_sl_impl_Key 1 #[(0, (.agg v37))]) .slice fun y38 =>
        C.sem (Builtin.append_ #[ty_sl_impl_Key, ty_sl_impl_Key] ty_sl_impl_Key #[(.slice s6.1.a s6.1.n s6.1.c), (.slice y38.a y38.n y38.c)]) .slice fun y39 =>
        ct6 [(.slice y39.a y39.n y39.c), (.int .i64 (IntKind.wrap .i64 (s6.2 + 1)))]
      ) (
        ct6 [(.slice s6.1.a s6.1.n s6.1.c), (.int .i64 (IntKind.wrap .i64 (s6.2 + 1)))]
      )
    ) (
      C.ret (.tuple #[(.slice s6.1.a s6.1.n s6.1.c), (.int .i64 0)])
    )
  )
theorem spec_RootsOf_eq (C : Comb) (x0 : Array Value) : fT C Tryz.prog { loop := [(7, [(7, .slice), (8, (.int .i64))])], join := [], anyOrder := [], pure := [] } n_spec_RootsOf [(.agg x0)] = spec_RootsOf C x0 := by kernel_rfl
theorem spec_RootsOf_calls {R : Value → World → Prop} {w : World} (x0 : Array Value) (h : (spec_RootsOf (real Tryz.prog R) x0 : World → Prop) w) :
    Calls Tryz.prog n_spec_RootsOf [(.agg x0)].toArray w fun e w' => ∃ v, e = .returned v ∧ R v w' := fT_sound mixed { loop := [(7, [(7, .slice), (8, (.int .i64))])], join := [], anyOrder := [], pure := [] } (by rw [spec_RootsOf_eq]; exact h)

/-- impl.RootsOf (21) -/
def impl_RootsOf (C : Comb) (x0 : Array Value) : C.St :=
  C.new ty_impl_Store (.agg x0) fun b1 =>
  C.ld .agg 1 (Addr.mk b1 0 none) fun v10 =>
  C.call n_impl_newShop [(.agg v10)] [.optr, .bool] fun r11 =>
  cond (!r11.2) (
    C.ret (.tuple #[(.slice none 0 0), (.int .i64 1)])
  ) (
    C.sem (Instr.buildSlice ty_sl_impl_Key 0 #[]) .slice fun y16 =>
    C.call n_ptr_impl_shop_counts [(.pointer r11.1)] [.slice] fun r18 =>
    C.loop (TL [.slice, (.int .i64)]) (embL [.slice, (.int .i64)]) [(.slice y16.a y16.n y16.c), (.int .i64 0)] fun s6 ct6 => C.any fun _ =>
    cond (decide (s6.2 < (r18.n : Int))) (
      C.ix r18.a r18.n 1 s6.2 fun p23 =>
      C.ld (.int .i64) 1 p23 fun v24 =>
      cond (v24 == 0) (
        dpT C r11.1 fun a9 =>
        C.ld .slice 1 (a9.add 0) fun v31 =>
        C.ix v31.a v31.n 32 s6.2 fun p33 =>
        C.ld .agg 32 p33 fun v34 =>
        C.sem (Instr.buildSlice ty_sl_impl_Key 1 #[(0, (.agg v34))]) .slice fun y35 =>
        C.sem (Builtin.append_ #[ty_sl_impl_Key, ty_sl_impl_Key] ty_sl_impl_Key #[(.slice s6.1.a s6.1.n s6.1.c), (.slice y35.a y35.n y35.c)]) .slice fun y36 =>
        ct6 [(.slice y36.a y36.n y36.c), (.int .i64 (IntKind.wrap .i64 (s6.2 + 1)))]
      ) (
        ct6 [(.slice s6.1.a s6.1.n s6.1.c), (.int .i64 (IntKind.wrap .i64 (s6.2 + 1)))]
      )
    ) (
      C.ret (.tuple #[(.slice s6.1.a s6.1.n s6.1.c), (.int .i64 0)])
    )
  )
theorem impl_RootsOf_eq (C : Comb) (x0 : Array Value) : fT C Tryz.prog { loop := [(6, [(6, .slice), (20, (.int .i64))])], join := [], anyOrder := [], pure := [] } n_impl_RootsOf [(.agg x0)] = impl_RootsOf C x0 := by kernel_rfl
theorem impl_RootsOf_calls {R : Value → World → Prop} {w : World} (x0 : Array Value) (h : (impl_RootsOf (real Tryz.prog R) x0 : World → Prop) w) :
    Calls Tryz.prog n_impl_RootsOf [(.agg x0)].toArray w fun e w' => ∃ v, e = .returned v ∧ R v w' := fT_sound mixed { loop := [(6, [(6, .slice), (20, (.int .i64))])], join := [], anyOrder := [], pure := [] } (by rw [impl_RootsOf_eq]; exact h)

/-- laws.eqKeyS (22) -/
def laws_eqKeyS (C : Comb) (x0 : Sl) (x1 : Sl) : C.St :=
  cond ((x0.n : Int) != (x1.n : Int)) (
    C.ret (.bool false)
  ) (
    C.loop (TL [(.int .i64)]) (embL [(.int .i64)]) [(.int .i64 0)] fun s1 ct1 => C.any fun _ =>
    cond (decide (s1 < (x0.n : Int))) (
      C.draw <|
      C.ix x0.a x0.n 32 s1 fun p19 =>
      C.ld .agg 32 p19 fun v20 =>
      C.ix x1.a x1.n 32 s1 fun p23 =>
      C.ld .agg 32 p23 fun v24 =>
      C.call n_laws_eqKey [(.agg v20), (.agg v24)] [.bool] fun r25 =>
      cond (!r25) (
        C.ret (.bool false)
      ) (
        ct1 [(.int .i64 (IntKind.wrap .i64 (s1 + 1)))]
      )
    ) (
      C.ret (.bool true)
    )
  )
theorem laws_eqKeyS_eq (C : Comb) (x0 : Sl) (x1 : Sl) : fT C Tryz.prog { loop := [(4, [(5, (.int .i64))])], join := [], anyOrder := [6], pure := [] } n_laws_eqKeyS [(.slice x0.a x0.n x0.c), (.slice x1.a x1.n x1.c)] = laws_eqKeyS C x0 x1 := by kernel_rfl
theorem laws_eqKeyS_calls {R : Value → World → Prop} {w : World} (x0 : Sl) (x1 : Sl) (h : (laws_eqKeyS (real Tryz.prog R) x0 x1 : World → Prop) w) :
    Calls Tryz.prog n_laws_eqKeyS [(.slice x0.a x0.n x0.c), (.slice x1.a x1.n x1.c)].toArray w fun e w' => ∃ v, e = .returned v ∧ R v w' := fT_sound mixed { loop := [(4, [(5, (.int .i64))])], join := [], anyOrder := [6], pure := [] } (by rw [laws_eqKeyS_eq]; exact h)

/-- laws.markKeyS (23) -/
def laws_markKeyS (C : Comb) (x0 : Sl) (x1 : Int) : C.St :=
  C.loop (TL [(.int .i64), (.int .i64)]) (embL [(.int .i64), (.int .i64)]) [(.int .i64 x1), (.int .i64 0)] fun s1 ct1 => C.any fun _ =>
  cond (decide (s1.2 < (x0.n : Int))) (
    C.loop (TL [(.int .i64), (.int .i64)]) (embL [(.int .i64), (.int .i64)]) [(.int .i64 s1.1), (.int .i64 0)] fun s2 ct2 => C.any fun _ =>
    cond (decide (s2.2 < 32)) (
      C.ix x0.a x0.n 32 s1.2 fun p22 =>
      C.ix (some p22) 32 1 s2.2 fun p23 =>
      C.st 1 p23 (.int .u8 (IntKind.wrap .u8 (s2.1))) <|
      ct2 [(.int .i64 (IntKind.wrap .i64 (s2.1 + 1))), (.int .i64 (IntKind.wrap .i64 (s2.2 + 1)))]
    ) (
      ct1 [(.int .i64 s2.1), (.int .i64 (IntKind.wrap .i64 (s1.2 + 1)))]
    )
  ) (
    C.ret (.int .i64 s1.1)
  )
theorem laws_markKeyS_eq (C : Comb) (x0 : Sl) (x1 : Int) : fT C Tryz.prog { loop := [(2, [(1, (.int .i64)), (5, (.int .i64))]), (5, [(1, (.int .i64)), (6, (.int .i64))])], join := [], anyOrder := [], pure := [] } n_laws_markKeyS [(.slice x0.a x0.n x0.c), (.int .i64 x1)] = laws_markKeyS C x0 x1 := by kernel_rfl
theorem laws_markKeyS_calls {R : Value → World → Prop} {w : World} (x0 : Sl) (x1 : Int) (h : (laws_markKeyS (real Tryz.prog R) x0 x1 : World → Prop) w) :
    Calls Tryz.prog n_laws_markKeyS [(.slice x0.a x0.n x0.c), (.int .i64 x1)].toArray w fun e w' => ∃ v, e = .returned v ∧ R v w' := fT_sound mixed { loop := [(2, [(1, (.int .i64)), (5, (.int .i64))]), (5, [(1, (.int .i64)), (6, (.int .i64))])], join := [], anyOrder := [], pure := [] } (by rw [laws_markKeyS_eq]; exact h)

/-- laws.heldKeyS (24) -/
def laws_heldKeyS (C : Comb) (x0 : Sl) (x1 : Int) : C.St :=
  C.loop (TL [(.int .i64), (.int .i64)]) (embL [(.int .i64), (.int .i64)]) [(.int .i64 x1), (.int .i64 0)] fun s1 ct1 => C.any fun _ =>
  cond (decide (s1.2 < (x0.n : Int))) (
    C.loop (TL [(.int .i64), (.int .i64)]) (embL [(.int .i64), (.int .i64)]) [(.int .i64 s1.1), (.int .i64 0)] fun s2 ct2 => C.any fun _ =>
    cond (decide (s2.2 < 32)) (
      C.ix x0.a x0.n 32 s1.2 fun p20 =>
      C.ix (some p20) 32 1 s2.2 fun p21 =>
      C.ld (.int .u8) 1 p21 fun v22 =>
      cond (v22 != (IntKind.wrap .u8 (s2.1))) (
        C.ret (.int .i64 (-1))
      ) (
        ct2 [(.int .i64 (IntKind.wrap .i64 (s2.1 + 1))), (.int .i64 (IntKind.wrap .i64 (s2.2 + 1)))]
      )
    ) (
      ct1 [(.int .i64 s2.1), (.int .i64 (IntKind.wrap .i64 (s1.2 + 1)))]
    )
  ) (
    C.ret (.int .i64 s1.1)
  )
theorem laws_heldKeyS_eq (C : Comb) (x0 : Sl) (x1 : Int) : fT C Tryz.prog { loop := [(2, [(1, (.int .i64)), (5, (.int .i64))]), (5, [(1, (.int .i64)), (6, (.int .i64))])], join := [], anyOrder := [], pure := [] } n_laws_heldKeyS [(.slice x0.a x0.n x0.c), (.int .i64 x1)] = laws_heldKeyS C x0 x1 := by kernel_rfl
theorem laws_heldKeyS_calls {R : Value → World → Prop} {w : World} (x0 : Sl) (x1 : Int) (h : (laws_heldKeyS (real Tryz.prog R) x0 x1 : World → Prop) w) :
    Calls Tryz.prog n_laws_heldKeyS [(.slice x0.a x0.n x0.c), (.int .i64 x1)].toArray w fun e w' => ∃ v, e = .returned v ∧ R v w' := fT_sound mixed { loop := [(2, [(1, (.int .i64)), (5, (.int .i64))]), (5, [(1, (.int .i64)), (6, (.int .i64))])], join := [], anyOrder := [], pure := [] } (by rw [laws_heldKeyS_eq]; exact h)

/-- laws.szBlob (25) -/
def laws_szBlob (C : Comb) (x0 : Array Value) (x1 : Int) : C.St :=
  C.new ty_laws_Blob (.agg x0) fun b2 =>
  C.ld .slice 1 ((Addr.mk b2 0 none).add 1) fun v6 =>
  C.call n_laws_szByteS [(.slice v6.a v6.n v6.c), (.int .i64 x1)] [(.int .i64)] fun r8 =>
  cond (decide (r8 < 0)) (
    C.ret (.int .i64 (-1))
  ) (
    C.ret (.int .i64 r8)
  )
theorem laws_szBlob_eq (C : Comb) (x0 : Array Value) (x1 : Int) : fT C Tryz.prog { loop := [], join := [], anyOrder := [], pure := [] } n_laws_szBlob [(.agg x0), (.int .i64 x1)] = laws_szBlob C x0 x1 := by kernel_rfl
theorem laws_szBlob_calls {R : Value → World → Prop} {w : World} (x0 : Array Value) (x1 : Int) (h : (laws_szBlob (real Tryz.prog R) x0 x1 : World → Prop) w) :
    Calls Tryz.prog n_laws_szBlob [(.agg x0), (.int .i64 x1)].toArray w fun e w' => ∃ v, e = .returned v ∧ R v w' := fT_sound mixed { loop := [], join := [], anyOrder := [], pure := [] } (by rw [laws_szBlob_eq]; exact h)

/-- spec.PutBlob (26) -/
def spec_PutBlob (C : Comb) (x0 : Array Value) (x1 : Array Value) : C.St :=
  C.new ty_impl_Store (.agg x0) fun b2 =>
  C.new ty_impl_Blob (.agg x1) fun b3 =>
  C.new ty_impl_Store (.agg (#[(.slice none 0 0)])) fun b4 =>
  C.new ty_impl_Key (.agg (Array.replicate 32 (.int .u8 0))) fun b5 =>
  C.call n_spec_l05Open [(.pointer (some (Addr.mk b2 0 none)))] [.optr, .bool] fun r12 =>
  C.join (TL []) (embL []) (fun s13 => C.any fun _ =>
      C.ld .agg 2 (Addr.mk b3 0 none) fun v25 =>
      C.call n_ptr_spec_l05Store_put [(.pointer r12.1), (.agg v25)] [.agg, (.int .i64)] fun r26 =>
      C.new ty_impl_Key (.agg (Array.replicate 32 (.int .u8 0))) fun b9 =>
      C.st 32 (Addr.mk b9 0 none) (.agg r26.1) <|
      C.ld .agg 32 (Addr.mk b9 0 none) fun v30 =>
      C.call n_spec_l05Made [(.pointer r12.1), (.agg v30), (.int .i64 r26.2)] [.agg, .agg, (.int .i64)] fun r32 =>
      C.st 1 (Addr.mk b4 0 none) (.agg r32.1) <|
      C.st 32 (Addr.mk b5 0 none) (.agg r32.2.1) <|
      C.ld .agg 1 (Addr.mk b4 0 none) fun z19 =>
      C.ld .agg 32 (Addr.mk b5 0 none) fun z20 =>
      C.ret (.tuple #[(.agg z19), (.agg z20), (.int .i64 r32.2.2)])
    ) fun jt =>
  cond (!r12.2) (
    C.pur (Instr.build ty_impl_Store #[]) .agg fun y21 =>
    C.st 1 (Addr.mk b4 0 none) (.agg y21) <|
    C.st 32 (Addr.mk b5 0 none) (.agg (Array.replicate 32 (.int .u8 0))) <|
    C.ld .agg 1 (Addr.mk b4 0 none) fun z7 =>
    C.ld .agg 32 (Addr.mk b5 0 none) fun z8 =>
    C.ret (.tuple #[(.agg z7), (.agg z8), (.int .i64 1)])
  ) (
    C.call n_spec_l05Blob [(.pointer (some (Addr.mk b3 0 none)))] [.bool] fun r18 =>
    cond (!r18) (
      C.pur (Instr.build ty_impl_Store #[]) .agg fun y21 =>
      C.st 1 (Addr.mk b4 0 none) (.agg y21) <|
      C.st 32 (Addr.mk b5 0 none) (.agg (Array.replicate 32 (.int .u8 0))) <|
      C.ld .agg 1 (Addr.mk b4 0 none) fun z11 =>
      C.ld .agg 32 (Addr.mk b5 0 none) fun z12 =>
      C.ret (.tuple #[(.agg z11), (.agg z12), (.int .i64 1)])
    ) (
      jt []
    )
  )
theorem spec_PutBlob_eq (C : Comb) (x0 : Array Value) (x1 : Array Value) : fT C Tryz.prog { loop := [], join := [(60, [])], anyOrder := [], pure := [] } n_spec_PutBlob [(.agg x0), (.agg x1)] = spec_PutBlob C x0 x1 := by kernel_rfl
theorem spec_PutBlob_calls {R : Value → World → Prop} {w : World} (x0 : Array Value) (x1 : Array Value) (h : (spec_PutBlob (real Tryz.prog R) x0 x1 : World → Prop) w) :
    Calls Tryz.prog n_spec_PutBlob [(.agg x0), (.agg x1)].toArray w fun e w' => ∃ v, e = .returned v ∧ R v w' := fT_sound mixed { loop := [], join := [(60, [])], anyOrder := [], pure := [] } (by rw [spec_PutBlob_eq]; exact h)

/-- laws.toBlob (27) -/
def laws_toBlob (C : Comb) (x0 : Array Value) : C.St :=
  C.new ty_laws_Blob (.agg x0) fun b1 =>
  C.new ty_impl_Blob (.agg (#[(.int .u8 0), (.slice none 0 0)])) fun b2 =>
  C.new ty_impl_Blob (.agg (#[(.int .u8 0), (.slice none 0 0)])) fun b3 =>
  C.ld (.int .u8) 1 ((Addr.mk b1 0 none).add 0) fun v5 =>
  C.st 1 ((Addr.mk b3 0 none).add 0) (.int .u8 v5) <|
  C.ld .slice 1 ((Addr.mk b1 0 none).add 1) fun v8 =>
  C.call n_laws_toByteS [(.slice v8.a v8.n v8.c)] [.slice] fun r9 =>
  C.st 1 ((Addr.mk b3 0 none).add 1) (.slice r9.a r9.n r9.c) <|
  C.ld .agg 2 (Addr.mk b3 0 none) fun v11 =>
  C.st 2 (Addr.mk b2 0 none) (.agg v11) <|
  C.ld .agg 2 (Addr.mk b2 0 none) fun z8 =>
  C.ret (.agg z8)
theorem laws_toBlob_eq (C : Comb) (x0 : Array Value) : fT C Tryz.prog { loop := [], join := [], anyOrder := [], pure := [] } n_laws_toBlob [(.agg x0)] = laws_toBlob C x0 := by kernel_rfl
theorem laws_toBlob_calls {R : Value → World → Prop} {w : World} (x0 : Array Value) (h : (laws_toBlob (real Tryz.prog R) x0 : World → Prop) w) :
    Calls Tryz.prog n_laws_toBlob [(.agg x0)].toArray w fun e w' => ∃ v, e = .returned v ∧ R v w' := fT_sound mixed { loop := [], join := [], anyOrder := [], pure := [] } (by rw [laws_toBlob_eq]; exact h)

/-- impl.PutBlob (28) -/
def impl_PutBlob (C : Comb) (x0 : Array Value) (x1 : Array Value) : C.St :=
  C.new ty_impl_Store (.agg x0) fun b2 =>
  C.new ty_impl_Blob (.agg x1) fun b3 =>
  C.new ty_impl_Store (.agg (#[(.slice none 0 0)])) fun b4 =>
  C.new ty_impl_Key (.agg (Array.replicate 32 (.int .u8 0))) fun b5 =>
  C.ld .agg 1 (Addr.mk b2 0 none) fun v10 =>
  C.call n_impl_newShop [(.agg v10)] [.optr, .bool] fun r11 =>
  C.join (TL []) (embL []) (fun s15 => C.any fun _ =>
      C.ld .agg 2 (Addr.mk b3 0 none) fun v24 =>
      C.sem (Instr.buildSlice ty_sl_impl_Blob 1 #[(0, (.agg v24))]) .slice fun y25 =>
      C.call n_ptr_impl_shop_putAll [(.pointer r11.1), (.slice y25.a y25.n y25.c)] [.agg, .agg, (.int .i64)] fun r26 =>
      C.st 1 (Addr.mk b4 0 none) (.agg r26.1) <|
      C.st 32 (Addr.mk b5 0 none) (.agg r26.2.1) <|
      C.ld .agg 1 (Addr.mk b4 0 none) fun z19 =>
      C.ld .agg 32 (Addr.mk b5 0 none) fun z20 =>
      C.ret (.tuple #[(.agg z19), (.agg z20), (.int .i64 r26.2.2)])
    ) fun jt =>
  cond (!r11.2) (
    C.pur (Instr.build ty_impl_Store #[]) .agg fun y21 =>
    C.st 1 (Addr.mk b4 0 none) (.agg y21) <|
    C.st 32 (Addr.mk b5 0 none) (.agg (Array.replicate 32 (.int .u8 0))) <|
    C.ld .agg 1 (Addr.mk b4 0 none) fun z8 =>
    C.ld .agg 32 (Addr.mk b5 0 none) fun z9 =>
    C.ret (.tuple #[(.agg z8), (.agg z9), (.int .i64 1)])
  ) (
    C.ld .agg 2 (Addr.mk b3 0 none) fun v17 =>
    C.call n_impl_ValidBlob [(.agg v17)] [.bool] fun r18 =>
    cond (!r18) (
      C.pur (Instr.build ty_impl_Store #[]) .agg fun y21 =>
      C.st 1 (Addr.mk b4 0 none) (.agg y21) <|
      C.st 32 (Addr.mk b5 0 none) (.agg (Array.replicate 32 (.int .u8 0))) <|
      C.ld .agg 1 (Addr.mk b4 0 none) fun z13 =>
      C.ld .agg 32 (Addr.mk b5 0 none) fun z14 =>
      C.ret (.tuple #[(.agg z13), (.agg z14), (.int .i64 1)])
    ) (
      jt []
    )
  )
theorem impl_PutBlob_eq (C : Comb) (x0 : Array Value) (x1 : Array Value) : fT C Tryz.prog { loop := [], join := [(60, [])], anyOrder := [], pure := [] } n_impl_PutBlob [(.agg x0), (.agg x1)] = impl_PutBlob C x0 x1 := by kernel_rfl
theorem impl_PutBlob_calls {R : Value → World → Prop} {w : World} (x0 : Array Value) (x1 : Array Value) (h : (impl_PutBlob (real Tryz.prog R) x0 x1 : World → Prop) w) :
    Calls Tryz.prog n_impl_PutBlob [(.agg x0), (.agg x1)].toArray w fun e w' => ∃ v, e = .returned v ∧ R v w' := fT_sound mixed { loop := [], join := [(60, [])], anyOrder := [], pure := [] } (by rw [impl_PutBlob_eq]; exact h)

/-- laws.eqKey (29) -/
def laws_eqKey (C : Comb) (x0 : Array Value) (x1 : Array Value) : C.St :=
  C.new ty_impl_Key (.agg x0) fun b2 =>
  C.new ty_impl_Key (.agg x1) fun b3 =>
  C.loop (TL [(.int .i64)]) (embL [(.int .i64)]) [(.int .i64 0)] fun s3 ct3 => C.any fun _ =>
  cond (decide (s3 < 32)) (
    C.draw <|
    C.ix (some (Addr.mk b2 0 none)) 32 1 s3 fun p11 =>
    C.ld (.int .u8) 1 p11 fun v12 =>
    C.ix (some (Addr.mk b3 0 none)) 32 1 s3 fun p14 =>
    C.ld (.int .u8) 1 p14 fun v15 =>
    cond (v12 != v15) (
      C.ret (.bool false)
    ) (
      ct3 [(.int .i64 (IntKind.wrap .i64 (s3 + 1)))]
    )
  ) (
    C.ret (.bool true)
  )
theorem laws_eqKey_eq (C : Comb) (x0 : Array Value) (x1 : Array Value) : fT C Tryz.prog { loop := [(2, [(5, (.int .i64))])], join := [], anyOrder := [], pure := [] } n_laws_eqKey [(.agg x0), (.agg x1)] = laws_eqKey C x0 x1 := by kernel_rfl
theorem laws_eqKey_calls {R : Value → World → Prop} {w : World} (x0 : Array Value) (x1 : Array Value) (h : (laws_eqKey (real Tryz.prog R) x0 x1 : World → Prop) w) :
    Calls Tryz.prog n_laws_eqKey [(.agg x0), (.agg x1)].toArray w fun e w' => ∃ v, e = .returned v ∧ R v w' := fT_sound mixed { loop := [(2, [(5, (.int .i64))])], join := [], anyOrder := [], pure := [] } (by rw [laws_eqKey_eq]; exact h)

/-- laws.eqBlob (30) -/
def laws_eqBlob (C : Comb) (x0 : Array Value) (x1 : Array Value) : C.St :=
  C.new ty_impl_Blob (.agg x0) fun b2 =>
  C.new ty_impl_Blob (.agg x1) fun b3 =>
  C.ld (.int .u8) 1 ((Addr.mk b2 0 none).add 0) fun v6 =>
  C.ld (.int .u8) 1 ((Addr.mk b3 0 none).add 0) fun v8 =>
  cond (v6 != v8) (
    C.ret (.bool false)
  ) (
    C.ld .slice 1 ((Addr.mk b2 0 none).add 1) fun v11 =>
    C.ld .slice 1 ((Addr.mk b3 0 none).add 1) fun v13 =>
    C.call n_laws_eqByteS [(.slice v11.a v11.n v11.c), (.slice v13.a v13.n v13.c)] [.bool] fun r14 =>
    cond (!r14) (
      C.ret (.bool false)
    ) (
      C.ret (.bool true)
    )
  )
theorem laws_eqBlob_eq (C : Comb) (x0 : Array Value) (x1 : Array Value) : fT C Tryz.prog { loop := [], join := [], anyOrder := [], pure := [] } n_laws_eqBlob [(.agg x0), (.agg x1)] = laws_eqBlob C x0 x1 := by kernel_rfl
theorem laws_eqBlob_calls {R : Value → World → Prop} {w : World} (x0 : Array Value) (x1 : Array Value) (h : (laws_eqBlob (real Tryz.prog R) x0 x1 : World → Prop) w) :
    Calls Tryz.prog n_laws_eqBlob [(.agg x0), (.agg x1)].toArray w fun e w' => ∃ v, e = .returned v ∧ R v w' := fT_sound mixed { loop := [], join := [], anyOrder := [], pure := [] } (by rw [laws_eqBlob_eq]; exact h)

/-- laws.markBlob (31) -/
def laws_markBlob (C : Comb) (x0 : Array Value) (x1 : Int) : C.St :=
  C.new ty_impl_Blob (.agg x0) fun b2 =>
  C.ld .slice 1 ((Addr.mk b2 0 none).add 1) fun v6 =>
  C.call n_laws_markByteS [(.slice v6.a v6.n v6.c), (.int .i64 x1)] [(.int .i64)] fun r8 =>
  C.ret (.int .i64 r8)
theorem laws_markBlob_eq (C : Comb) (x0 : Array Value) (x1 : Int) : fT C Tryz.prog { loop := [], join := [], anyOrder := [], pure := [] } n_laws_markBlob [(.agg x0), (.int .i64 x1)] = laws_markBlob C x0 x1 := by kernel_rfl
theorem laws_markBlob_calls {R : Value → World → Prop} {w : World} (x0 : Array Value) (x1 : Int) (h : (laws_markBlob (real Tryz.prog R) x0 x1 : World → Prop) w) :
    Calls Tryz.prog n_laws_markBlob [(.agg x0), (.int .i64 x1)].toArray w fun e w' => ∃ v, e = .returned v ∧ R v w' := fT_sound mixed { loop := [], join := [], anyOrder := [], pure := [] } (by rw [laws_markBlob_eq]; exact h)

/-- laws.heldStore (32) -/
def laws_heldStore (C : Comb) (x0 : Array Value) (x1 : Int) : C.St :=
  C.new ty_impl_Store (.agg x0) fun b2 =>
  C.ld .slice 1 ((Addr.mk b2 0 none).add 0) fun v6 =>
  C.call n_laws_heldBlobS [(.slice v6.a v6.n v6.c), (.int .i64 x1)] [(.int .i64)] fun r8 =>
  cond (decide (r8 < 0)) (
    C.ret (.int .i64 (-1))
  ) (
    C.ret (.int .i64 r8)
  )
theorem laws_heldStore_eq (C : Comb) (x0 : Array Value) (x1 : Int) : fT C Tryz.prog { loop := [], join := [], anyOrder := [], pure := [] } n_laws_heldStore [(.agg x0), (.int .i64 x1)] = laws_heldStore C x0 x1 := by kernel_rfl
theorem laws_heldStore_calls {R : Value → World → Prop} {w : World} (x0 : Array Value) (x1 : Int) (h : (laws_heldStore (real Tryz.prog R) x0 x1 : World → Prop) w) :
    Calls Tryz.prog n_laws_heldStore [(.agg x0), (.int .i64 x1)].toArray w fun e w' => ∃ v, e = .returned v ∧ R v w' := fT_sound mixed { loop := [], join := [], anyOrder := [], pure := [] } (by rw [laws_heldStore_eq]; exact h)

/-- spec.JoinStores (33) -/
def spec_JoinStores (C : Comb) (x0 : Array Value) (x1 : Array Value) : C.St :=
  C.new ty_impl_Store (.agg x0) fun b2 =>
  C.new ty_impl_Store (.agg x1) fun b3 =>
  C.new ty_impl_Store (.agg (#[(.slice none 0 0)])) fun b4 =>
  C.call n_spec_l05Open [(.pointer (some (Addr.mk b2 0 none)))] [.optr, .bool] fun r15 =>
  C.call n_spec_l05Open [(.pointer (some (Addr.mk b3 0 none)))] [.optr, .bool] fun r19 =>
  C.join (TL []) (embL []) (fun s10 => C.any fun _ =>
      C.loop (TL [.bool, (.int .i64)]) (embL [.bool, (.int .i64)]) [(.bool false), (.int .i64 0)] fun s11 ct11 => C.any fun _ =>
      dpT C r19.1 fun a12 =>
      C.ld .slice 1 (a12.add 0) fun v33 =>
      cond (decide (s11.2 < (v33.n : Int))) (
        dpT C r19.1 fun a14 =>
        C.ld .slice 1 (a14.add 0) fun v43 =>
        C.ix v43.a v43.n 2 s11.2 fun p45 =>
        C.ld .agg 2 p45 fun v46 =>
        C.call n_ptr_spec_l05Store_put [(.pointer r15.1), (.agg v46)] [.agg, (.int .i64)] fun r47 =>
        C.new ty_impl_Key (.agg (Array.replicate 32 (.int .u8 0))) fun b12 =>
        C.st 32 (Addr.mk b12 0 none) (.agg r47.1) <|
        cond (r47.2 == 8) (
          C.pur (Instr.build ty_impl_Store #[]) .agg fun y52 =>
          C.st 1 (Addr.mk b4 0 none) (.agg y52) <|
          C.ld .agg 1 (Addr.mk b4 0 none) fun z21 =>
          C.ret (.tuple #[(.agg z21), (.int .i64 r47.2)])
        ) (
          cond s11.1 (
            ct11 [(.bool true), (.int .i64 (IntKind.wrap .i64 (s11.2 + 1)))]
          ) (
            ct11 [(.bool (r47.2 == 3)), (.int .i64 (IntKind.wrap .i64 (s11.2 + 1)))]
          )
        )
      ) (
        cond s11.1 (
          C.pur (Instr.build ty_impl_Store #[]) .agg fun y60 =>
          C.st 1 (Addr.mk b4 0 none) (.agg y60) <|
          C.ld .agg 1 (Addr.mk b4 0 none) fun z23 =>
          C.ret (.tuple #[(.agg z23), (.int .i64 3)])
        ) (
          C.call n_ptr_spec_l05Store_store [(.pointer r15.1)] [.agg] fun r62 =>
          C.st 1 (Addr.mk b4 0 none) (.agg r62) <|
          C.ld .agg 1 (Addr.mk b4 0 none) fun z25 =>
          C.ret (.tuple #[(.agg z25), (.int .i64 0)])
        )
      )
    ) fun jt =>
  cond (!r15.2) (
    C.pur (Instr.build ty_impl_Store #[]) .agg fun y28 =>
    C.st 1 (Addr.mk b4 0 none) (.agg y28) <|
    C.ld .agg 1 (Addr.mk b4 0 none) fun z7 =>
    C.ret (.tuple #[(.agg z7), (.int .i64 1)])
  ) (
    cond (!r19.2) (
      C.pur (Instr.build ty_impl_Store #[]) .agg fun y28 =>
      C.st 1 (Addr.mk b4 0 none) (.agg y28) <|
      C.ld .agg 1 (Addr.mk b4 0 none) fun z9 =>
      C.ret (.tuple #[(.agg z9), (.int .i64 1)])
    ) (
      jt []
    )
  )
theorem spec_JoinStores_eq (C : Comb) (x0 : Array Value) (x1 : Array Value) : fT C Tryz.prog { loop := [(7, [(10, .bool), (11, (.int .i64))])], join := [(81, [])], anyOrder := [], pure := [] } n_spec_JoinStores [(.agg x0), (.agg x1)] = spec_JoinStores C x0 x1 := by kernel_rfl
theorem spec_JoinStores_calls {R : Value → World → Prop} {w : World} (x0 : Array Value) (x1 : Array Value) (h : (spec_JoinStores (real Tryz.prog R) x0 x1 : World → Prop) w) :
    Calls Tryz.prog n_spec_JoinStores [(.agg x0), (.agg x1)].toArray w fun e w' => ∃ v, e = .returned v ∧ R v w' := fT_sound mixed { loop := [(7, [(10, .bool), (11, (.int .i64))])], join := [(81, [])], anyOrder := [], pure := [] } (by rw [spec_JoinStores_eq]; exact h)

/-- impl.JoinStores (34) -/
def impl_JoinStores (C : Comb) (x0 : Array Value) (x1 : Array Value) : C.St :=
  C.new ty_impl_Store (.agg x0) fun b2 =>
  C.new ty_impl_Store (.agg x1) fun b3 =>
  C.new ty_impl_Store (.agg (#[(.slice none 0 0)])) fun b4 =>
  C.ld .agg 1 (Addr.mk b2 0 none) fun v18 =>
  C.call n_impl_newShop [(.agg v18)] [.optr, .bool] fun r19 =>
  C.ld .agg 1 (Addr.mk b3 0 none) fun v23 =>
  C.call n_impl_newShop [(.agg v23)] [.optr, .bool] fun r24 =>
  C.join (TL []) (embL []) (fun s12 => C.any fun _ =>
      dpT C r24.1 fun a13 =>
      C.ld .slice 1 (a13.add 0) fun v37 =>
      C.loop (TL [(.int .i64)]) (embL [(.int .i64)]) [(.int .i64 0)] fun s15 ct15 => C.any fun _ =>
      cond (decide (s15 < (v37.n : Int))) (
        C.ix v37.a v37.n 32 s15 fun p42 =>
        C.ld .agg 32 p42 fun v43 =>
        C.new ty_impl_Key (.agg (Array.replicate 32 (.int .u8 0))) fun b11 =>
        C.st 32 (Addr.mk b11 0 none) (.agg v43) <|
        C.ld .agg 32 (Addr.mk b11 0 none) fun v46 =>
        C.call n_ptr_impl_shop_get [(.pointer r19.1), (.agg v46)] [.agg, .bool] fun r47 =>
        C.new ty_impl_Blob (.agg (#[(.int .u8 0), (.slice none 0 0)])) fun b12 =>
        C.st 2 (Addr.mk b12 0 none) (.agg r47.1) <|
        C.draw <|
        cond r47.2 (
          dpT C r24.1 fun a22 =>
          C.all [
            (C.ld .agg 2 (Addr.mk b12 0 none) fun v52 =>
             C.ld .slice 1 (a22.add 1) fun v56 =>
             C.ix v56.a v56.n 2 s15 fun p58 =>
             C.ld .agg 2 p58 fun v59 =>
             C.call n_impl_SameBlob [(.agg v52), (.agg v59)] [.bool] fun r60 =>
             cond (!r60) (
               C.pur (Instr.build ty_impl_Store #[]) .agg fun y63 =>
               C.st 1 (Addr.mk b4 0 none) (.agg y63) <|
               C.ld .agg 1 (Addr.mk b4 0 none) fun z29 =>
               C.ret (.tuple #[(.agg z29), (.int .i64 8)])
             ) (
               ct15 [(.int .i64 (IntKind.wrap .i64 (s15 + 1)))]
             )),
            (C.ld .slice 1 (a22.add 1) fun v56 =>
             C.ix v56.a v56.n 2 s15 fun p58 =>
             C.all [
               (C.ld .agg 2 (Addr.mk b12 0 none) fun v52 =>
                C.ld .agg 2 p58 fun v59 =>
                C.call n_impl_SameBlob [(.agg v52), (.agg v59)] [.bool] fun r60 =>
                cond (!r60) (
                  C.pur (Instr.build ty_impl_Store #[]) .agg fun y63 =>
                  C.st 1 (Addr.mk b4 0 none) (.agg y63) <|
                  C.ld .agg 1 (Addr.mk b4 0 none) fun z36 =>
                  C.ret (.tuple #[(.agg z36), (.int .i64 8)])
                ) (
                  ct15 [(.int .i64 (IntKind.wrap .i64 (s15 + 1)))]
                )),
               (C.ld .agg 2 p58 fun v59 =>
                C.ld .agg 2 (Addr.mk b12 0 none) fun v52 =>
                C.call n_impl_SameBlob [(.agg v52), (.agg v59)] [.bool] fun r60 =>
                cond (!r60) (
                  C.pur (Instr.build ty_impl_Store #[]) .agg fun y63 =>
                  C.st 1 (Addr.mk b4 0 none) (.agg y63) <|
                  C.ld .agg 1 (Addr.mk b4 0 none) fun z41 =>
                  C.ret (.tuple #[(.agg z41), (.int .i64 8)])
                ) (
                  ct15 [(.int .i64 (IntKind.wrap .i64 (s15 + 1)))]
                ))])]
        ) (
          C.all [
            (ct15 [(.int .i64 (IntKind.wrap .i64 (s15 + 1)))]),
            (C.all [
               (ct15 [(.int .i64 (IntKind.wrap .i64 (s15 + 1)))]),
               (ct15 [(.int .i64 (IntKind.wrap .i64 (s15 + 1)))])])]
        )
      ) (
        dpT C r24.1 fun a42 =>
        C.ld .slice 1 (a42.add 1) fun v70 =>
        C.call n_ptr_impl_shop_putAll [(.pointer r19.1), (.slice v70.a v70.n v70.c)] [.agg, .agg, (.int .i64)] fun r71 =>
        C.new ty_impl_Store (.agg (#[(.slice none 0 0)])) fun b14 =>
        C.new ty_impl_Key (.agg (Array.replicate 32 (.int .u8 0))) fun b15 =>
        C.st 1 (Addr.mk b14 0 none) (.agg r71.1) <|
        C.st 32 (Addr.mk b15 0 none) (.agg r71.2.1) <|
        C.ld .agg 1 (Addr.mk b14 0 none) fun v75 =>
        C.st 1 (Addr.mk b4 0 none) (.agg v75) <|
        C.ld .agg 1 (Addr.mk b4 0 none) fun z48 =>
        C.ret (.tuple #[(.agg z48), (.int .i64 r71.2.2)])
      )
    ) fun jt =>
  cond (!r19.2) (
    C.pur (Instr.build ty_impl_Store #[]) .agg fun y33 =>
    C.st 1 (Addr.mk b4 0 none) (.agg y33) <|
    C.ld .agg 1 (Addr.mk b4 0 none) fun z9 =>
    C.ret (.tuple #[(.agg z9), (.int .i64 1)])
  ) (
    cond (!r24.2) (
      C.pur (Instr.build ty_impl_Store #[]) .agg fun y33 =>
      C.st 1 (Addr.mk b4 0 none) (.agg y33) <|
      C.ld .agg 1 (Addr.mk b4 0 none) fun z11 =>
      C.ret (.tuple #[(.agg z11), (.int .i64 1)])
    ) (
      jt []
    )
  )
theorem impl_JoinStores_eq (C : Comb) (x0 : Array Value) (x1 : Array Value) : fT C Tryz.prog { loop := [(6, [(39, (.int .i64))])], join := [(96, [])], anyOrder := [9], pure := [] } n_impl_JoinStores [(.agg x0), (.agg x1)] = impl_JoinStores C x0 x1 := by kernel_rfl
theorem impl_JoinStores_calls {R : Value → World → Prop} {w : World} (x0 : Array Value) (x1 : Array Value) (h : (impl_JoinStores (real Tryz.prog R) x0 x1 : World → Prop) w) :
    Calls Tryz.prog n_impl_JoinStores [(.agg x0), (.agg x1)].toArray w fun e w' => ∃ v, e = .returned v ∧ R v w' := fT_sound mixed { loop := [(6, [(39, (.int .i64))])], join := [(96, [])], anyOrder := [9], pure := [] } (by rw [impl_JoinStores_eq]; exact h)

/-- spec.LinkPath (35) -/
def spec_LinkPath (C : Comb) (x0 : Array Value) (x1 : Array Value) (x2 : Array Value) : C.St :=
  C.new ty_impl_Store (.agg x0) fun b3 =>
  C.new ty_impl_Key (.agg x1) fun b4 =>
  C.new ty_impl_Key (.agg x2) fun b5 =>
  C.call n_spec_l05Open [(.pointer (some (Addr.mk b3 0 none)))] [.optr, .bool] fun r18 =>
  cond (!r18.2) (
    C.sem (Instr.buildSlice ty_sl_impl_Key 0 #[]) .slice fun y23 =>
    C.ret (.tuple #[(.slice y23.a y23.n y23.c), (.int .i64 1)])
  ) (
    C.join (TL []) (embL []) (fun s12 => C.any fun _ =>
        C.ld .agg 32 (Addr.mk b4 0 none) fun v35 =>
        C.sem (Instr.buildSlice ty_sl_impl_Key 1 #[(0, (.agg v35))]) .slice fun y36 =>
        C.sem (Instr.buildSlice ty_sl_int 1 #[(0, (.int .i64 (-1)))]) .slice fun y37 =>
        C.loop (TL [.slice, .slice, (.int .i64)]) (embL [.slice, .slice, (.int .i64)]) [(.slice y36.a y36.n y36.c), (.slice y37.a y37.n y37.c), (.int .i64 0)] fun s16 ct16 => C.any fun _ =>
        cond (decide (s16.2.2 < (s16.1.n : Int))) (
          C.draw <|
          C.ix s16.1.a s16.1.n 32 s16.2.2 fun p46 =>
          C.ld .agg 32 p46 fun v47 =>
          C.ld .agg 32 (Addr.mk b5 0 none) fun v48 =>
          C.pur (eqB .eql ty_impl_Key (.tmp 47) (.tmp 48) (.agg v47) (.agg v48)) .bool fun y49 =>
          cond y49 (
            C.sem (Instr.buildSlice ty_sl_impl_Key 0 #[]) .slice fun y50 =>
            C.loop (TL [.slice, (.int .i64)]) (embL [.slice, (.int .i64)]) [(.slice y50.a y50.n y50.c), (.int .i64 s16.2.2)] fun s22 ct22 => C.any fun _ =>
            cond (decide (s22.2 ≥ 0)) (
              C.ix s16.1.a s16.1.n 32 s22.2 fun p60 =>
              C.ld .agg 32 p60 fun v61 =>
              C.sem (Instr.buildSlice ty_sl_impl_Key 1 #[(0, (.agg v61))]) .slice fun y62 =>
              C.sem (Builtin.append_ #[ty_sl_impl_Key, ty_sl_impl_Key] ty_sl_impl_Key #[(.slice y62.a y62.n y62.c), (.slice s22.1.a s22.1.n s22.1.c)]) .slice fun y64 =>
              C.ix s16.2.1.a s16.2.1.n 1 s22.2 fun p56 =>
              C.ld (.int .i64) 1 p56 fun v57 =>
              ct22 [(.slice y64.a y64.n y64.c), (.int .i64 v57)]
            ) (
              C.ret (.tuple #[(.slice s22.1.a s22.1.n s22.1.c), (.int .i64 0)])
            )
          ) (
            C.join (TL [.slice]) (embL [.slice]) (fun s36 => C.any fun _ =>
                C.loop (TL [.slice, .slice, (.int .i64)]) (embL [.slice, .slice, (.int .i64)]) [(.slice s16.1.a s16.1.n s16.1.c), (.slice s16.2.1.a s16.2.1.n s16.2.1.c), (.int .i64 0)] fun s37 ct37 => C.any fun _ =>
                cond (decide (s37.2.2 < (s36.n : Int))) (
                  C.join (TL [.bool]) (embL [.bool]) (fun s44 => C.any fun _ =>
                      cond s44 (
                        C.ix s36.a s36.n 32 s37.2.2 fun p103 =>
                        C.ld .agg 32 p103 fun v104 =>
                        C.sem (Instr.buildSlice ty_sl_impl_Key 1 #[(0, (.agg v104))]) .slice fun y105 =>
                        C.sem (Builtin.append_ #[ty_sl_impl_Key, ty_sl_impl_Key] ty_sl_impl_Key #[(.slice s37.1.a s37.1.n s37.1.c), (.slice y105.a y105.n y105.c)]) .slice fun y106 =>
                        C.sem (Instr.buildSlice ty_sl_int 1 #[(0, (.int .i64 s16.2.2))]) .slice fun y109 =>
                        C.sem (Builtin.append_ #[ty_sl_int, ty_sl_int] ty_sl_int #[(.slice s37.2.1.a s37.2.1.n s37.2.1.c), (.slice y109.a y109.n y109.c)]) .slice fun y110 =>
                        ct37 [(.slice y106.a y106.n y106.c), (.slice y110.a y110.n y110.c), (.int .i64 (IntKind.wrap .i64 (s37.2.2 + 1)))]
                      ) (
                        ct37 [(.slice s37.1.a s37.1.n s37.1.c), (.slice s37.2.1.a s37.2.1.n s37.2.1.c), (.int .i64 (IntKind.wrap .i64 (s37.2.2 + 1)))]
                      )
                    ) fun jt =>
                  C.ix s36.a s36.n 32 s37.2.2 fun p87 =>
                  C.ld .agg 32 p87 fun v88 =>
                  C.call n_ptr_spec_l05Store_find [(.pointer r18.1), (.agg v88)] [(.int .i64)] fun r89 =>
                  cond (decide (r89 ≥ 0)) (
                    C.ix s36.a s36.n 32 s37.2.2 fun p95 =>
                    C.ld .agg 32 p95 fun v96 =>
                    C.call n_spec_l01Has [(.slice s37.1.a s37.1.n s37.1.c), (.agg v96)] [.bool] fun r97 =>
                    jt [(.bool (!r97))]
                  ) (
                    jt [(.bool false)]
                  )
                ) (
                  ct16 [(.slice s37.1.a s37.1.n s37.1.c), (.slice s37.2.1.a s37.2.1.n s37.2.1.c), (.int .i64 (IntKind.wrap .i64 (s16.2.2 + 1)))]
                )
              ) fun jt =>
            C.draw <|
            dpT C r18.1 fun a29 =>
            C.ld .slice 1 (a29.add 0) fun v69 =>
            C.ix s16.1.a s16.1.n 32 s16.2.2 fun p73 =>
            C.ld .agg 32 p73 fun v74 =>
            C.call n_ptr_spec_l05Store_find [(.pointer r18.1), (.agg v74)] [(.int .i64)] fun r75 =>
            C.chk [⟨3, 1, (a29.add 0), .slice, v69⟩] <|
            C.ix v69.a v69.n 2 r75 fun p76 =>
            C.call n_spec_l05Links [(.pointer (some p76))] [.slice] fun r77 =>
            C.chk [⟨3, 1, (a29.add 0), .slice, v69⟩] <|
            jt [(.slice r77.a r77.n r77.c)]
          )
        ) (
          C.sem (Instr.buildSlice ty_sl_impl_Key 0 #[]) .slice fun y111 =>
          C.ret (.tuple #[(.slice y111.a y111.n y111.c), (.int .i64 6)])
        )
      ) fun jt =>
    C.ld .agg 32 (Addr.mk b4 0 none) fun v25 =>
    C.call n_ptr_spec_l05Store_find [(.pointer r18.1), (.agg v25)] [(.int .i64)] fun r26 =>
    cond (decide (r26 < 0)) (
      C.sem (Instr.buildSlice ty_sl_impl_Key 0 #[]) .slice fun y34 =>
      C.ret (.tuple #[(.slice y34.a y34.n y34.c), (.int .i64 6)])
    ) (
      C.ld .agg 32 (Addr.mk b5 0 none) fun v30 =>
      C.call n_ptr_spec_l05Store_find [(.pointer r18.1), (.agg v30)] [(.int .i64)] fun r31 =>
      cond (decide (r31 < 0)) (
        C.sem (Instr.buildSlice ty_sl_impl_Key 0 #[]) .slice fun y34 =>
        C.ret (.tuple #[(.slice y34.a y34.n y34.c), (.int .i64 6)])
      ) (
        jt []
      )
    )
  )
theorem spec_LinkPath_eq (C : Comb) (x0 : Array Value) (x1 : Array Value) (x2 : Array Value) : fT C Tryz.prog { loop := [(9, [(10, .slice), (11, .slice), (12, (.int .i64))]), (14, [(13, .slice), (14, (.int .i64))]), (20, [(10, .slice), (11, .slice), (16, (.int .i64))])], join := [(99, []), (55, [(15, .slice)]), (67, [(99, .bool)])], anyOrder := [18], pure := [] } n_spec_LinkPath [(.agg x0), (.agg x1), (.agg x2)] = spec_LinkPath C x0 x1 x2 := by kernel_rfl
theorem spec_LinkPath_calls {R : Value → World → Prop} {w : World} (x0 : Array Value) (x1 : Array Value) (x2 : Array Value) (h : (spec_LinkPath (real Tryz.prog R) x0 x1 x2 : World → Prop) w) :
    Calls Tryz.prog n_spec_LinkPath [(.agg x0), (.agg x1), (.agg x2)].toArray w fun e w' => ∃ v, e = .returned v ∧ R v w' := fT_sound mixed { loop := [(9, [(10, .slice), (11, .slice), (12, (.int .i64))]), (14, [(13, .slice), (14, (.int .i64))]), (20, [(10, .slice), (11, .slice), (16, (.int .i64))])], join := [(99, []), (55, [(15, .slice)]), (67, [(99, .bool)])], anyOrder := [18], pure := [] } (by rw [spec_LinkPath_eq]; exact h)

/-- laws.toKey (36) -/
def laws_toKey (C : Comb) (x0 : Array Value) : C.St :=
  C.new ty_arr32_uint8 (.agg x0) fun b1 =>
  C.new ty_impl_Key (.agg (Array.replicate 32 (.int .u8 0))) fun b2 =>
  C.new ty_impl_Key (.agg (Array.replicate 32 (.int .u8 0))) fun b3 =>
  C.loop (TL [(.int .i64)]) (embL [(.int .i64)]) [(.int .i64 0)] fun s4 ct4 => C.any fun _ =>
  cond (decide (s4 < 32)) (
    C.ix (some (Addr.mk b1 0 none)) 32 1 s4 fun p11 =>
    C.ld (.int .u8) 1 p11 fun v12 =>
    C.ix (some (Addr.mk b3 0 none)) 32 1 s4 fun p13 =>
    C.st 1 p13 (.int .u8 v12) <|
    ct4 [(.int .i64 (IntKind.wrap .i64 (s4 + 1)))]
  ) (
    C.ld .agg 32 (Addr.mk b3 0 none) fun v14 =>
    C.st 32 (Addr.mk b2 0 none) (.agg v14) <|
    C.ld .agg 32 (Addr.mk b2 0 none) fun z9 =>
    C.ret (.agg z9)
  )
theorem laws_toKey_eq (C : Comb) (x0 : Array Value) : fT C Tryz.prog { loop := [(3, [(4, (.int .i64))])], join := [], anyOrder := [], pure := [] } n_laws_toKey [(.agg x0)] = laws_toKey C x0 := by kernel_rfl
theorem laws_toKey_calls {R : Value → World → Prop} {w : World} (x0 : Array Value) (h : (laws_toKey (real Tryz.prog R) x0 : World → Prop) w) :
    Calls Tryz.prog n_laws_toKey [(.agg x0)].toArray w fun e w' => ∃ v, e = .returned v ∧ R v w' := fT_sound mixed { loop := [(3, [(4, (.int .i64))])], join := [], anyOrder := [], pure := [] } (by rw [laws_toKey_eq]; exact h)

/-- impl.LinkPath (37) -/
def impl_LinkPath (C : Comb) (x0 : Array Value) (x1 : Array Value) (x2 : Array Value) : C.St :=
  C.new ty_impl_Store (.agg x0) fun b3 =>
  C.new ty_impl_Key (.agg x1) fun b4 =>
  C.new ty_impl_Key (.agg x2) fun b5 =>
  C.ld .agg 1 (Addr.mk b3 0 none) fun v23 =>
  C.call n_impl_newShop [(.agg v23)] [.optr, .bool] fun r24 =>
  C.join (TL []) (embL []) (fun s10 => C.any fun _ =>
      C.join (TL [.val, .slice]) (embL [.val, .slice]) (fun s19 => C.any fun _ =>
          C.loop (TL [.slice, (.int .i64)]) (embL [.slice, (.int .i64)]) [(.slice s19.2.a s19.2.n s19.2.c), (.int .i64 0)] fun s20 ct20 => C.any fun _ =>
          cond (decide (s20.2 < (s20.1.n : Int))) (
            C.ix s20.1.a s20.1.n 32 s20.2 fun p57 =>
            C.ld .agg 32 p57 fun v58 =>
            C.call n_ptr_impl_shop_get [(.pointer r24.1), (.agg v58)] [.agg, .bool] fun r59 =>
            C.new ty_impl_Blob (.agg (#[(.int .u8 0), (.slice none 0 0)])) fun b13 =>
            C.st 2 (Addr.mk b13 0 none) (.agg r59.1) <|
            C.ld .agg 2 (Addr.mk b13 0 none) fun v62 =>
            C.call n_impl_Blob_links [(.agg v62)] [.slice] fun r63 =>
            C.loop (TL [.slice, (.int .i64)]) (embL [.slice, (.int .i64)]) [(.slice s20.1.a s20.1.n s20.1.c), (.int .i64 0)] fun s27 ct27 => C.any fun _ =>
            cond (decide (s27.2 < (r63.n : Int))) (
              C.ix r63.a r63.n 32 s27.2 fun p67 =>
              C.ld .agg 32 p67 fun v68 =>
              C.new ty_impl_Key (.agg (Array.replicate 32 (.int .u8 0))) fun b16 =>
              C.st 32 (Addr.mk b16 0 none) (.agg v68) <|
              C.ld .agg 32 (Addr.mk b16 0 none) fun v71 =>
              C.semL (Instr.lookup ty_map_impl_Key_impl_Key s19.1 (.agg v71) true) [.agg, .bool] fun y72 =>
              C.new ty_impl_Key (.agg (Array.replicate 32 (.int .u8 0))) fun b17 =>
              C.st 32 (Addr.mk b17 0 none) (.agg y72.1) <|
              C.join (TL [.bool]) (embL [.bool]) (fun s36 => C.any fun _ =>
                  cond s36 (
                    C.draw <|
                    C.ld .agg 32 (Addr.mk b16 0 none) fun v83 =>
                    C.ix s27.1.a s27.1.n 32 s20.2 fun p86 =>
                    C.ld .agg 32 p86 fun v87 =>
                    C.eff (Instr.mapUpdate ty_map_impl_Key_impl_Key s19.1 (.agg v83) (.agg v87)) <|
                    C.ld .agg 32 (Addr.mk b16 0 none) fun v89 =>
                    C.sem (Instr.buildSlice ty_sl_impl_Key 1 #[(0, (.agg v89))]) .slice fun y90 =>
                    C.sem (Builtin.append_ #[ty_sl_impl_Key, ty_sl_impl_Key] ty_sl_impl_Key #[(.slice s27.1.a s27.1.n s27.1.c), (.slice y90.a y90.n y90.c)]) .slice fun y91 =>
                    ct27 [(.slice y91.a y91.n y91.c), (.int .i64 (IntKind.wrap .i64 (s27.2 + 1)))]
                  ) (
                    ct27 [(.slice s27.1.a s27.1.n s27.1.c), (.int .i64 (IntKind.wrap .i64 (s27.2 + 1)))]
                  )
                ) fun jt =>
              cond (!y72.2) (
                C.ld .agg 32 (Addr.mk b16 0 none) fun v79 =>
                C.call n_ptr_impl_shop_has [(.pointer r24.1), (.agg v79)] [.bool] fun r80 =>
                jt [(.bool r80)]
              ) (
                jt [(.bool false)]
              )
            ) (
              ct20 [(.slice s27.1.a s27.1.n s27.1.c), (.int .i64 (IntKind.wrap .i64 (s20.2 + 1)))]
            )
          ) (
            C.ld .agg 32 (Addr.mk b5 0 none) fun v95 =>
            C.semL (Instr.lookup ty_map_impl_Key_impl_Key s19.1 (.agg v95) true) [.agg, .bool] fun y96 =>
            C.new ty_impl_Key (.agg (Array.replicate 32 (.int .u8 0))) fun b19 =>
            C.st 32 (Addr.mk b19 0 none) (.agg y96.1) <|
            cond (!y96.2) (
              C.ret (.tuple #[(.slice none 0 0), (.int .i64 6)])
            ) (
              C.ld .agg 32 (Addr.mk b5 0 none) fun v101 =>
              C.sem (Instr.buildSlice ty_sl_impl_Key 1 #[(0, (.agg v101))]) .slice fun y102 =>
              C.loop (TL [.slice]) (embL [.slice]) [(.slice y102.a y102.n y102.c)] fun s48 ct48 => C.any fun _ =>
              C.ld .agg 32 (Addr.mk b5 0 none) fun v103 =>
              C.ld .agg 32 (Addr.mk b4 0 none) fun v104 =>
              C.pur (eqB .neq ty_impl_Key (.tmp 103) (.tmp 104) (.agg v103) (.agg v104)) .bool fun y105 =>
              cond y105 (
                C.ld .agg 32 (Addr.mk b5 0 none) fun v107 =>
                C.semL (Instr.lookup ty_map_impl_Key_impl_Key s19.1 (.agg v107) false) [.agg] fun y108 =>
                C.st 32 (Addr.mk b5 0 none) (.agg y108) <|
                C.ld .agg 32 (Addr.mk b5 0 none) fun v110 =>
                C.sem (Instr.buildSlice ty_sl_impl_Key 1 #[(0, (.agg v110))]) .slice fun y111 =>
                C.sem (Builtin.append_ #[ty_sl_impl_Key, ty_sl_impl_Key] ty_sl_impl_Key #[(.slice s48.a s48.n s48.c), (.slice y111.a y111.n y111.c)]) .slice fun y112 =>
                ct48 [(.slice y112.a y112.n y112.c)]
              ) (
                C.call n_slices_Reverse_sl_impl_Key_impl_Key [(.slice s48.a s48.n s48.c)] [] fun r114 =>
                C.ret (.tuple #[(.slice s48.a s48.n s48.c), (.int .i64 0)])
              )
            )
          )
        ) fun jt =>
      C.draw <|
      C.ld .agg 32 (Addr.mk b4 0 none) fun v42 =>
      C.ld .agg 32 (Addr.mk b4 0 none) fun v43 =>
      C.ld .agg 32 (Addr.mk b4 0 none) fun v45 =>
      C.all [
        (C.sem (Instr.makeMap ty_map_impl_Key_impl_Key none) .val fun y41 =>
         C.chk [⟨5, 32, (Addr.mk b4 0 none), .agg, v45⟩, ⟨2, 32, (Addr.mk b4 0 none), .agg, v43⟩, ⟨1, 32, (Addr.mk b4 0 none), .agg, v42⟩] <|
         C.all [
           (C.eff (Instr.mapUpdate ty_map_impl_Key_impl_Key y41 (.agg v42) (.agg v43)) <|
            C.chk [⟨5, 32, (Addr.mk b4 0 none), .agg, v45⟩] <|
            C.sem (Instr.buildSlice ty_sl_impl_Key 1 #[(0, (.agg v45))]) .slice fun y46 =>
            jt [y41, (.slice y46.a y46.n y46.c)]),
           (C.sem (Instr.buildSlice ty_sl_impl_Key 1 #[(0, (.agg v45))]) .slice fun y46 =>
            C.chk [⟨2, 32, (Addr.mk b4 0 none), .agg, v43⟩, ⟨1, 32, (Addr.mk b4 0 none), .agg, v42⟩] <|
            C.eff (Instr.mapUpdate ty_map_impl_Key_impl_Key y41 (.agg v42) (.agg v43)) <|
            jt [y41, (.slice y46.a y46.n y46.c)])]),
        (C.sem (Instr.buildSlice ty_sl_impl_Key 1 #[(0, (.agg v45))]) .slice fun y46 =>
         C.chk [⟨2, 32, (Addr.mk b4 0 none), .agg, v43⟩, ⟨1, 32, (Addr.mk b4 0 none), .agg, v42⟩] <|
         C.sem (Instr.makeMap ty_map_impl_Key_impl_Key none) .val fun y41 =>
         C.chk [⟨2, 32, (Addr.mk b4 0 none), .agg, v43⟩, ⟨1, 32, (Addr.mk b4 0 none), .agg, v42⟩] <|
         C.eff (Instr.mapUpdate ty_map_impl_Key_impl_Key y41 (.agg v42) (.agg v43)) <|
         jt [y41, (.slice y46.a y46.n y46.c)])]
    ) fun jt =>
  cond (!r24.2) (
    C.ret (.tuple #[(.slice none 0 0), (.int .i64 1)])
  ) (
    C.ld .agg 32 (Addr.mk b4 0 none) fun v32 =>
    C.call n_ptr_impl_shop_has [(.pointer r24.1), (.agg v32)] [.bool] fun r33 =>
    cond (!r33) (
      C.ret (.tuple #[(.slice none 0 0), (.int .i64 6)])
    ) (
      C.ld .agg 32 (Addr.mk b5 0 none) fun v37 =>
      C.call n_ptr_impl_shop_has [(.pointer r24.1), (.agg v37)] [.bool] fun r38 =>
      cond (!r38) (
        C.ret (.tuple #[(.slice none 0 0), (.int .i64 6)])
      ) (
        jt []
      )
    )
  )
theorem impl_LinkPath_eq (C : Comb) (x0 : Array Value) (x1 : Array Value) (x2 : Array Value) : fT C Tryz.prog { loop := [(8, [(11, .slice), (12, (.int .i64))]), (12, [(11, .slice), (65, (.int .i64))]), (23, [(21, .slice)])], join := [(8, []), (19, [(10, .val), (11, .slice)]), (46, [(81, .bool)])], anyOrder := [6, 16], pure := [] } n_impl_LinkPath [(.agg x0), (.agg x1), (.agg x2)] = impl_LinkPath C x0 x1 x2 := by kernel_rfl
theorem impl_LinkPath_calls {R : Value → World → Prop} {w : World} (x0 : Array Value) (x1 : Array Value) (x2 : Array Value) (h : (impl_LinkPath (real Tryz.prog R) x0 x1 x2 : World → Prop) w) :
    Calls Tryz.prog n_impl_LinkPath [(.agg x0), (.agg x1), (.agg x2)].toArray w fun e w' => ∃ v, e = .returned v ∧ R v w' := fT_sound mixed { loop := [(8, [(11, .slice), (12, (.int .i64))]), (12, [(11, .slice), (65, (.int .i64))]), (23, [(21, .slice)])], join := [(8, []), (19, [(10, .val), (11, .slice)]), (46, [(81, .bool)])], anyOrder := [6, 16], pure := [] } (by rw [impl_LinkPath_eq]; exact h)

/-- laws.szKeyS (38) -/
def laws_szKeyS (C : Comb) (x0 : Sl) (x1 : Int) : C.St :=
  cond (decide ((IntKind.wrap .i64 (x1 - (x0.n : Int))) < 0)) (
    C.ret (.int .i64 (-1))
  ) (
    C.ret (.int .i64 (IntKind.wrap .i64 (x1 - (x0.n : Int))))
  )
theorem laws_szKeyS_eq (C : Comb) (x0 : Sl) (x1 : Int) : fT C Tryz.prog { loop := [], join := [], anyOrder := [], pure := [] } n_laws_szKeyS [(.slice x0.a x0.n x0.c), (.int .i64 x1)] = laws_szKeyS C x0 x1 := by kernel_rfl
theorem laws_szKeyS_calls {R : Value → World → Prop} {w : World} (x0 : Sl) (x1 : Int) (h : (laws_szKeyS (real Tryz.prog R) x0 x1 : World → Prop) w) :
    Calls Tryz.prog n_laws_szKeyS [(.slice x0.a x0.n x0.c), (.int .i64 x1)].toArray w fun e w' => ∃ v, e = .returned v ∧ R v w' := fT_sound mixed { loop := [], join := [], anyOrder := [], pure := [] } (by rw [laws_szKeyS_eq]; exact h)

/-- spec.ReachableFrom (39) -/
def spec_ReachableFrom (C : Comb) (x0 : Array Value) (x1 : Sl) : C.St :=
  C.new ty_impl_Store (.agg x0) fun b2 =>
  C.call n_spec_l05Asked [(.pointer (some (Addr.mk b2 0 none))), (.slice x1.a x1.n x1.c)] [.optr, (.int .i64)] fun r12 =>
  cond (r12.2 != 0) (
    C.sem (Instr.buildSlice ty_sl_impl_Key 0 #[]) .slice fun y17 =>
    C.ret (.tuple #[(.slice y17.a y17.n y17.c), (.int .i64 r12.2)])
  ) (
    C.call n_ptr_spec_l05Store_reach [(.pointer r12.1), (.slice x1.a x1.n x1.c)] [.slice, .slice] fun r22 =>
    C.call n_ptr_spec_l05Store_keep [(.pointer r12.1), (.slice r22.1.a r22.1.n r22.1.c)] [.ptr] fun r27 =>
    C.ld .slice 1 (r27.add 1) fun v30 =>
    C.ret (.tuple #[(.slice v30.a v30.n v30.c), (.int .i64 0)])
  )
theorem spec_ReachableFrom_eq (C : Comb) (x0 : Array Value) (x1 : Sl) : fT C Tryz.prog { loop := [], join := [], anyOrder := [], pure := [] } n_spec_ReachableFrom [(.agg x0), (.slice x1.a x1.n x1.c)] = spec_ReachableFrom C x0 x1 := by kernel_rfl
theorem spec_ReachableFrom_calls {R : Value → World → Prop} {w : World} (x0 : Array Value) (x1 : Sl) (h : (spec_ReachableFrom (real Tryz.prog R) x0 x1 : World → Prop) w) :
    Calls Tryz.prog n_spec_ReachableFrom [(.agg x0), (.slice x1.a x1.n x1.c)].toArray w fun e w' => ∃ v, e = .returned v ∧ R v w' := fT_sound mixed { loop := [], join := [], anyOrder := [], pure := [] } (by rw [spec_ReachableFrom_eq]; exact h)

/-- laws.toKeyS (40) -/
def laws_toKeyS (C : Comb) (x0 : Sl) : C.St :=
  C.sem (Instr.makeSlice ty_sl_impl_Key (.int .i64 (x0.n : Int)) (.int .i64 (x0.n : Int))) .slice fun y7 =>
  C.loop (TL [(.int .i64)]) (embL [(.int .i64)]) [(.int .i64 0)] fun s2 ct2 => C.any fun _ =>
  cond (decide (s2 < (x0.n : Int))) (
    C.ix x0.a x0.n 32 s2 fun p18 =>
    C.ld .agg 32 p18 fun v19 =>
    C.call n_laws_toKey [(.agg v19)] [.agg] fun r20 =>
    C.ix y7.a y7.n 32 s2 fun p21 =>
    C.st 32 p21 (.agg r20) <|
    ct2 [(.int .i64 (IntKind.wrap .i64 (s2 + 1)))]
  ) (
    C.ret (.slice y7.a y7.n y7.c)
  )
theorem laws_toKeyS_eq (C : Comb) (x0 : Sl) : fT C Tryz.prog { loop := [(3, [(4, (.int .i64))])], join := [], anyOrder := [], pure := [] } n_laws_toKeyS [(.slice x0.a x0.n x0.c)] = laws_toKeyS C x0 := by kernel_rfl
theorem laws_toKeyS_calls {R : Value → World → Prop} {w : World} (x0 : Sl) (h : (laws_toKeyS (real Tryz.prog R) x0 : World → Prop) w) :
    Calls Tryz.prog n_laws_toKeyS [(.slice x0.a x0.n x0.c)].toArray w fun e w' => ∃ v, e = .returned v ∧ R v w' := fT_sound mixed { loop := [(3, [(4, (.int .i64))])], join := [], anyOrder := [], pure := [] } (by rw [laws_toKeyS_eq]; exact h)

/-- impl.ReachableFrom (41) -/
def impl_ReachableFrom (C : Comb) (x0 : Array Value) (x1 : Sl) : C.St :=
  C.new ty_impl_Store (.agg x0) fun b2 =>
  C.ld .agg 1 (Addr.mk b2 0 none) fun v9 =>
  C.sem (Instr.buildSlice ty_sl_sl_impl_Key 1 #[(0, (.slice x1.a x1.n x1.c))]) .slice fun y11 =>
  C.call n_impl_reachCode [(.agg v9), (.slice y11.a y11.n y11.c)] [.optr, (.int .i64)] fun r12 =>
  cond (r12.2 != 0) (
    C.ret (.tuple #[(.slice none 0 0), (.int .i64 r12.2)])
  ) (
    C.call n_ptr_impl_shop_reached [(.pointer r12.1), (.slice x1.a x1.n x1.c), (.bool true)] [.slice] fun r20 =>
    C.ret (.tuple #[(.slice r20.a r20.n r20.c), (.int .i64 0)])
  )
theorem impl_ReachableFrom_eq (C : Comb) (x0 : Array Value) (x1 : Sl) : fT C Tryz.prog { loop := [], join := [], anyOrder := [], pure := [] } n_impl_ReachableFrom [(.agg x0), (.slice x1.a x1.n x1.c)] = impl_ReachableFrom C x0 x1 := by kernel_rfl
theorem impl_ReachableFrom_calls {R : Value → World → Prop} {w : World} (x0 : Array Value) (x1 : Sl) (h : (impl_ReachableFrom (real Tryz.prog R) x0 x1 : World → Prop) w) :
    Calls Tryz.prog n_impl_ReachableFrom [(.agg x0), (.slice x1.a x1.n x1.c)].toArray w fun e w' => ∃ v, e = .returned v ∧ R v w' := fT_sound mixed { loop := [], join := [], anyOrder := [], pure := [] } (by rw [impl_ReachableFrom_eq]; exact h)

/-- spec.PutFolder (42) -/
def spec_PutFolder (C : Comb) (x0 : Array Value) (x1 : Sl) : C.St :=
  C.new ty_impl_Store (.agg x0) fun b2 =>
  C.new ty_impl_Store (.agg (#[(.slice none 0 0)])) fun b4 =>
  C.new ty_impl_Key (.agg (Array.replicate 32 (.int .u8 0))) fun b5 =>
  C.call n_spec_l05Open [(.pointer (some (Addr.mk b2 0 none)))] [.optr, .bool] fun r15 =>
  cond (!r15.2) (
    C.pur (Instr.build ty_impl_Store #[]) .agg fun y20 =>
    C.st 1 (Addr.mk b4 0 none) (.agg y20) <|
    C.st 32 (Addr.mk b5 0 none) (.agg (Array.replicate 32 (.int .u8 0))) <|
    C.ld .agg 1 (Addr.mk b4 0 none) fun z6 =>
    C.ld .agg 32 (Addr.mk b5 0 none) fun z7 =>
    C.ret (.tuple #[(.agg z6), (.agg z7), (.int .i64 1)])
  ) (
    cond (decide ((x1.n : Int) > 32)) (
      C.pur (Instr.build ty_impl_Store #[]) .agg fun y25 =>
      C.st 1 (Addr.mk b4 0 none) (.agg y25) <|
      C.st 32 (Addr.mk b5 0 none) (.agg (Array.replicate 32 (.int .u8 0))) <|
      C.ld .agg 1 (Addr.mk b4 0 none) fun z9 =>
      C.ld .agg 32 (Addr.mk b5 0 none) fun z10 =>
      C.ret (.tuple #[(.agg z9), (.agg z10), (.int .i64 3)])
    ) (
      C.sem (Instr.buildSlice ty_sl_uint8 0 #[]) .slice fun y27 =>
      C.loop (TL [.slice, (.int .i64)]) (embL [.slice, (.int .i64)]) [(.slice y27.a y27.n y27.c), (.int .i64 0)] fun s12 ct12 => C.any fun _ =>
      cond (decide (s12.2 < (x1.n : Int))) (
        C.loop (TL [.slice, (.int .i64)]) (embL [.slice, (.int .i64)]) [(.slice s12.1.a s12.1.n s12.1.c), (.int .i64 0)] fun s13 ct13 => C.any fun _ =>
        cond (decide (s13.2 < 32)) (
          C.ix x1.a x1.n 32 s12.2 fun p42 =>
          C.ix (some p42) 32 1 s13.2 fun p43 =>
          C.ld (.int .u8) 1 p43 fun v44 =>
          C.sem (Instr.buildSlice ty_sl_uint8 1 #[(0, (.int .u8 v44))]) .slice fun y45 =>
          C.sem (Builtin.append_ #[ty_sl_uint8, ty_sl_uint8] ty_sl_uint8 #[(.slice s13.1.a s13.1.n s13.1.c), (.slice y45.a y45.n y45.c)]) .slice fun y46 =>
          ct13 [(.slice y46.a y46.n y46.c), (.int .i64 (IntKind.wrap .i64 (s13.2 + 1)))]
        ) (
          ct12 [(.slice s13.1.a s13.1.n s13.1.c), (.int .i64 (IntKind.wrap .i64 (s12.2 + 1)))]
        )
      ) (
        C.pur (Instr.build ty_impl_Blob #[(0, (.int .u8 6)), (1, (.slice s12.1.a s12.1.n s12.1.c))]) .agg fun y50 =>
        C.call n_ptr_spec_l05Store_put [(.pointer r15.1), (.agg y50)] [.agg, (.int .i64)] fun r51 =>
        C.new ty_impl_Key (.agg (Array.replicate 32 (.int .u8 0))) fun b12 =>
        C.st 32 (Addr.mk b12 0 none) (.agg r51.1) <|
        C.ld .agg 32 (Addr.mk b12 0 none) fun v55 =>
        C.call n_spec_l05Made [(.pointer r15.1), (.agg v55), (.int .i64 r51.2)] [.agg, .agg, (.int .i64)] fun r57 =>
        C.st 1 (Addr.mk b4 0 none) (.agg r57.1) <|
        C.st 32 (Addr.mk b5 0 none) (.agg r57.2.1) <|
        C.ld .agg 1 (Addr.mk b4 0 none) fun z24 =>
        C.ld .agg 32 (Addr.mk b5 0 none) fun z25 =>
        C.ret (.tuple #[(.agg z24), (.agg z25), (.int .i64 r57.2.2)])
      )
    )
  )
theorem spec_PutFolder_eq (C : Comb) (x0 : Array Value) (x1 : Sl) : fT C Tryz.prog { loop := [(8, [(9, .slice), (10, (.int .i64))]), (11, [(9, .slice), (11, (.int .i64))])], join := [], anyOrder := [], pure := [] } n_spec_PutFolder [(.agg x0), (.slice x1.a x1.n x1.c)] = spec_PutFolder C x0 x1 := by kernel_rfl
theorem spec_PutFolder_calls {R : Value → World → Prop} {w : World} (x0 : Array Value) (x1 : Sl) (h : (spec_PutFolder (real Tryz.prog R) x0 x1 : World → Prop) w) :
    Calls Tryz.prog n_spec_PutFolder [(.agg x0), (.slice x1.a x1.n x1.c)].toArray w fun e w' => ∃ v, e = .returned v ∧ R v w' := fT_sound mixed { loop := [(8, [(9, .slice), (10, (.int .i64))]), (11, [(9, .slice), (11, (.int .i64))])], join := [], anyOrder := [], pure := [] } (by rw [spec_PutFolder_eq]; exact h)

/-- impl.PutFolder (43) -/
def impl_PutFolder (C : Comb) (x0 : Array Value) (x1 : Sl) : C.St :=
  C.new ty_impl_Store (.agg x0) fun b2 =>
  C.new ty_impl_Store (.agg (#[(.slice none 0 0)])) fun b4 =>
  C.new ty_impl_Key (.agg (Array.replicate 32 (.int .u8 0))) fun b5 =>
  C.ld .agg 1 (Addr.mk b2 0 none) fun v13 =>
  C.call n_impl_newShop [(.agg v13)] [.optr, .bool] fun r14 =>
  cond (!r14.2) (
    C.pur (Instr.build ty_impl_Store #[]) .agg fun y20 =>
    C.st 1 (Addr.mk b4 0 none) (.agg y20) <|
    C.st 32 (Addr.mk b5 0 none) (.agg (Array.replicate 32 (.int .u8 0))) <|
    C.ld .agg 1 (Addr.mk b4 0 none) fun z7 =>
    C.ld .agg 32 (Addr.mk b5 0 none) fun z8 =>
    C.ret (.tuple #[(.agg z7), (.agg z8), (.int .i64 1)])
  ) (
    cond (decide ((x1.n : Int) > 32)) (
      C.pur (Instr.build ty_impl_Store #[]) .agg fun y26 =>
      C.st 1 (Addr.mk b4 0 none) (.agg y26) <|
      C.st 32 (Addr.mk b5 0 none) (.agg (Array.replicate 32 (.int .u8 0))) <|
      C.ld .agg 1 (Addr.mk b4 0 none) fun z10 =>
      C.ld .agg 32 (Addr.mk b5 0 none) fun z11 =>
      C.ret (.tuple #[(.agg z10), (.agg z11), (.int .i64 3)])
    ) (
      C.sem (Instr.buildSlice ty_sl_uint8 0 #[]) .slice fun y28 =>
      C.loop (TL [.slice, (.int .i64)]) (embL [.slice, (.int .i64)]) [(.slice y28.a y28.n y28.c), (.int .i64 0)] fun s13 ct13 => C.any fun _ =>
      cond (decide (s13.2 < (x1.n : Int))) (
        C.ix x1.a x1.n 32 s13.2 fun p33 =>
        C.ld .agg 32 p33 fun v34 =>
        C.new ty_impl_Key (.agg (Array.replicate 32 (.int .u8 0))) fun b11 =>
        C.st 32 (Addr.mk b11 0 none) (.agg v34) <|
        C.sl (some (Addr.mk b11 0 none)) 32 32 1 none none none fun y36 =>
        C.sem (Builtin.append_ #[ty_sl_uint8, ty_sl_uint8] ty_sl_uint8 #[(.slice s13.1.a s13.1.n s13.1.c), (.slice y36.a y36.n y36.c)]) .slice fun y37 =>
        ct13 [(.slice y37.a y37.n y37.c), (.int .i64 (IntKind.wrap .i64 (s13.2 + 1)))]
      ) (
        C.pur (Instr.build ty_impl_Blob #[(0, (.int .u8 6)), (1, (.slice s13.1.a s13.1.n s13.1.c))]) .agg fun y41 =>
        C.sem (Instr.buildSlice ty_sl_impl_Blob 1 #[(0, (.agg y41))]) .slice fun y42 =>
        C.call n_ptr_impl_shop_putAll [(.pointer r14.1), (.slice y42.a y42.n y42.c)] [.agg, .agg, (.int .i64)] fun r43 =>
        C.st 1 (Addr.mk b4 0 none) (.agg r43.1) <|
        C.st 32 (Addr.mk b5 0 none) (.agg r43.2.1) <|
        C.ld .agg 1 (Addr.mk b4 0 none) fun z22 =>
        C.ld .agg 32 (Addr.mk b5 0 none) fun z23 =>
        C.ret (.tuple #[(.agg z22), (.agg z23), (.int .i64 r43.2.2)])
      )
    )
  )
theorem impl_PutFolder_eq (C : Comb) (x0 : Array Value) (x1 : Sl) : fT C Tryz.prog { loop := [(8, [(9, .slice), (31, (.int .i64))])], join := [], anyOrder := [], pure := [] } n_impl_PutFolder [(.agg x0), (.slice x1.a x1.n x1.c)] = impl_PutFolder C x0 x1 := by kernel_rfl
theorem impl_PutFolder_calls {R : Value → World → Prop} {w : World} (x0 : Array Value) (x1 : Sl) (h : (impl_PutFolder (real Tryz.prog R) x0 x1 : World → Prop) w) :
    Calls Tryz.prog n_impl_PutFolder [(.agg x0), (.slice x1.a x1.n x1.c)].toArray w fun e w' => ∃ v, e = .returned v ∧ R v w' := fT_sound mixed { loop := [(8, [(9, .slice), (31, (.int .i64))])], join := [], anyOrder := [], pure := [] } (by rw [impl_PutFolder_eq]; exact h)

/-- spec.MissingFrom (44) -/
def spec_MissingFrom (C : Comb) (x0 : Array Value) (x1 : Sl) : C.St :=
  C.new ty_impl_Store (.agg x0) fun b2 =>
  C.call n_spec_l05Asked [(.pointer (some (Addr.mk b2 0 none))), (.slice x1.a x1.n x1.c)] [.optr, (.int .i64)] fun r12 =>
  cond (r12.2 != 0) (
    C.sem (Instr.buildSlice ty_sl_impl_Key 0 #[]) .slice fun y17 =>
    C.ret (.tuple #[(.slice y17.a y17.n y17.c), (.int .i64 r12.2)])
  ) (
    C.call n_ptr_spec_l05Store_reach [(.pointer r12.1), (.slice x1.a x1.n x1.c)] [.slice, .slice] fun r22 =>
    C.call n_spec_l05Ascending [(.slice r22.2.a r22.2.n r22.2.c)] [.slice] fun r26 =>
    C.ret (.tuple #[(.slice r26.a r26.n r26.c), (.int .i64 0)])
  )
theorem spec_MissingFrom_eq (C : Comb) (x0 : Array Value) (x1 : Sl) : fT C Tryz.prog { loop := [], join := [], anyOrder := [], pure := [] } n_spec_MissingFrom [(.agg x0), (.slice x1.a x1.n x1.c)] = spec_MissingFrom C x0 x1 := by kernel_rfl
theorem spec_MissingFrom_calls {R : Value → World → Prop} {w : World} (x0 : Array Value) (x1 : Sl) (h : (spec_MissingFrom (real Tryz.prog R) x0 x1 : World → Prop) w) :
    Calls Tryz.prog n_spec_MissingFrom [(.agg x0), (.slice x1.a x1.n x1.c)].toArray w fun e w' => ∃ v, e = .returned v ∧ R v w' := fT_sound mixed { loop := [], join := [], anyOrder := [], pure := [] } (by rw [spec_MissingFrom_eq]; exact h)

/-- impl.MissingFrom (45) -/
def impl_MissingFrom (C : Comb) (x0 : Array Value) (x1 : Sl) : C.St :=
  C.new ty_impl_Store (.agg x0) fun b2 =>
  C.ld .agg 1 (Addr.mk b2 0 none) fun v9 =>
  C.sem (Instr.buildSlice ty_sl_sl_impl_Key 1 #[(0, (.slice x1.a x1.n x1.c))]) .slice fun y11 =>
  C.call n_impl_reachCode [(.agg v9), (.slice y11.a y11.n y11.c)] [.optr, (.int .i64)] fun r12 =>
  cond (r12.2 != 0) (
    C.ret (.tuple #[(.slice none 0 0), (.int .i64 r12.2)])
  ) (
    C.call n_ptr_impl_shop_reached [(.pointer r12.1), (.slice x1.a x1.n x1.c), (.bool false)] [.slice] fun r20 =>
    C.ret (.tuple #[(.slice r20.a r20.n r20.c), (.int .i64 0)])
  )
theorem impl_MissingFrom_eq (C : Comb) (x0 : Array Value) (x1 : Sl) : fT C Tryz.prog { loop := [], join := [], anyOrder := [], pure := [] } n_impl_MissingFrom [(.agg x0), (.slice x1.a x1.n x1.c)] = impl_MissingFrom C x0 x1 := by kernel_rfl
theorem impl_MissingFrom_calls {R : Value → World → Prop} {w : World} (x0 : Array Value) (x1 : Sl) (h : (impl_MissingFrom (real Tryz.prog R) x0 x1 : World → Prop) w) :
    Calls Tryz.prog n_impl_MissingFrom [(.agg x0), (.slice x1.a x1.n x1.c)].toArray w fun e w' => ∃ v, e = .returned v ∧ R v w' := fT_sound mixed { loop := [], join := [], anyOrder := [], pure := [] } (by rw [impl_MissingFrom_eq]; exact h)

/-- laws.szBlobS (46) -/
def laws_szBlobS (C : Comb) (x0 : Sl) (x1 : Int) : C.St :=
  cond (decide ((IntKind.wrap .i64 (x1 - (x0.n : Int))) < 0)) (
    C.ret (.int .i64 (-1))
  ) (
    C.loop (TL [(.int .i64), (.int .i64)]) (embL [(.int .i64), (.int .i64)]) [(.int .i64 (IntKind.wrap .i64 (x1 - (x0.n : Int)))), (.int .i64 0)] fun s1 ct1 => C.any fun _ =>
    cond (decide (s1.2 < (x0.n : Int))) (
      C.ix x0.a x0.n 2 s1.2 fun p20 =>
      C.ld .agg 2 p20 fun v21 =>
      C.call n_laws_szBlob [(.agg v21), (.int .i64 s1.1)] [(.int .i64)] fun r23 =>
      cond (decide (r23 < 0)) (
        C.ret (.int .i64 (-1))
      ) (
        ct1 [(.int .i64 r23), (.int .i64 (IntKind.wrap .i64 (s1.2 + 1)))]
      )
    ) (
      C.ret (.int .i64 s1.1)
    )
  )
theorem laws_szBlobS_eq (C : Comb) (x0 : Sl) (x1 : Int) : fT C Tryz.prog { loop := [(5, [(1, (.int .i64)), (5, (.int .i64))])], join := [], anyOrder := [], pure := [] } n_laws_szBlobS [(.slice x0.a x0.n x0.c), (.int .i64 x1)] = laws_szBlobS C x0 x1 := by kernel_rfl
theorem laws_szBlobS_calls {R : Value → World → Prop} {w : World} (x0 : Sl) (x1 : Int) (h : (laws_szBlobS (real Tryz.prog R) x0 x1 : World → Prop) w) :
    Calls Tryz.prog n_laws_szBlobS [(.slice x0.a x0.n x0.c), (.int .i64 x1)].toArray w fun e w' => ∃ v, e = .returned v ∧ R v w' := fT_sound mixed { loop := [(5, [(1, (.int .i64)), (5, (.int .i64))])], join := [], anyOrder := [], pure := [] } (by rw [laws_szBlobS_eq]; exact h)

/-- spec.l05Open (47) -/
def spec_l05Open (C : Comb) (x0 : Addr) : C.St :=
  C.pur (Instr.build ty_spec_l05Store #[]) .agg fun y7 =>
  C.new ty_spec_l05Store (.agg y7) fun b8 =>
  C.ld .slice 1 (x0.add 0) fun v12 =>
  cond (decide ((v12.n : Int) > 128)) (
    C.ret (.tuple #[(.pointer (some (Addr.mk b8 0 none))), (.bool false)])
  ) (
    C.loop (TL [(.int .i64)]) (embL [(.int .i64)]) [(.int .i64 0)] fun s4 ct4 => C.any fun _ =>
    C.ld .slice 1 (x0.add 0) fun v20 =>
    cond (decide (s4 < (v20.n : Int))) (
      C.ld .slice 1 (x0.add 0) fun v28 =>
      C.ix v28.a v28.n 2 s4 fun p30 =>
      C.call n_spec_l05Blob [(.pointer (some p30))] [.bool] fun r31 =>
      cond (!r31) (
        C.ret (.tuple #[(.pointer (some (Addr.mk b8 0 none))), (.bool false)])
      ) (
        C.ld .slice 1 (x0.add 0) fun v37 =>
        C.ix v37.a v37.n 2 s4 fun p39 =>
        C.call n_spec_l05Key [(.pointer (some p39))] [.agg] fun r40 =>
        C.new ty_impl_Key (.agg (Array.replicate 32 (.int .u8 0))) fun b6 =>
        C.st 32 (Addr.mk b6 0 none) (.agg r40) <|
        C.join (TL []) (embL []) (fun s26 => C.any fun _ =>
            C.join (TL []) (embL []) (fun s33 => C.any fun _ =>
                C.draw <|
                C.ld .slice 1 ((Addr.mk b8 0 none).add 1) fun v77 =>
                C.ld .agg 32 (Addr.mk b6 0 none) fun v78 =>
                C.sem (Instr.buildSlice ty_sl_impl_Key 1 #[(0, (.agg v78))]) .slice fun y79 =>
                C.chk [⟨4, 1, ((Addr.mk b8 0 none).add 1), .slice, v77⟩] <|
                C.sem (Builtin.append_ #[ty_sl_impl_Key, ty_sl_impl_Key] ty_sl_impl_Key #[(.slice v77.a v77.n v77.c), (.slice y79.a y79.n y79.c)]) .slice fun y80 =>
                C.st 1 ((Addr.mk b8 0 none).add 1) (.slice y80.a y80.n y80.c) <|
                ct4 [(.int .i64 (IntKind.wrap .i64 (s4 + 1)))]
              ) fun jt =>
            C.draw <|
            C.ld .slice 1 ((Addr.mk b8 0 none).add 0) fun v61 =>
            C.ld .slice 1 (x0.add 0) fun v65 =>
            C.ix v65.a v65.n 2 s4 fun p67 =>
            C.ld .agg 2 p67 fun v68 =>
            C.sem (Instr.buildSlice ty_sl_impl_Blob 1 #[(0, (.agg v68))]) .slice fun y69 =>
            C.chk [⟨8, 1, (x0.add 0), .slice, v65⟩, ⟨4, 1, ((Addr.mk b8 0 none).add 0), .slice, v61⟩] <|
            C.sem (Builtin.append_ #[ty_sl_impl_Blob, ty_sl_impl_Blob] ty_sl_impl_Blob #[(.slice v61.a v61.n v61.c), (.slice y69.a y69.n y69.c)]) .slice fun y70 =>
            C.chk [⟨8, 1, (x0.add 0), .slice, v65⟩] <|
            C.st 1 ((Addr.mk b8 0 none).add 0) (.slice y70.a y70.n y70.c) <|
            jt []
          ) fun jt =>
        C.draw <|
        cond (decide (s4 > 0)) (
          C.all [
            (C.ld .slice 1 ((Addr.mk b8 0 none).add 1) fun v47 =>
             C.ix v47.a v47.n 32 (IntKind.wrap .i64 (s4 - 1)) fun p50 =>
             C.all [
               (C.ld .agg 32 p50 fun v51 =>
                C.ld .agg 32 (Addr.mk b6 0 none) fun v52 =>
                C.call n_spec_l01Compare [(.agg v51), (.agg v52)] [(.int .i64)] fun r53 =>
                cond (decide (r53 ≥ 0)) (
                  C.ret (.tuple #[(.pointer (some (Addr.mk b8 0 none))), (.bool false)])
                ) (
                  jt []
                )),
               (C.ld .agg 32 (Addr.mk b6 0 none) fun v52 =>
                C.ld .agg 32 p50 fun v51 =>
                C.call n_spec_l01Compare [(.agg v51), (.agg v52)] [(.int .i64)] fun r53 =>
                cond (decide (r53 ≥ 0)) (
                  C.ret (.tuple #[(.pointer (some (Addr.mk b8 0 none))), (.bool false)])
                ) (
                  jt []
                ))]),
            (C.ld .agg 32 (Addr.mk b6 0 none) fun v52 =>
             C.ld .slice 1 ((Addr.mk b8 0 none).add 1) fun v47 =>
             C.ix v47.a v47.n 32 (IntKind.wrap .i64 (s4 - 1)) fun p50 =>
             C.ld .agg 32 p50 fun v51 =>
             C.call n_spec_l01Compare [(.agg v51), (.agg v52)] [(.int .i64)] fun r53 =>
             cond (decide (r53 ≥ 0)) (
               C.ret (.tuple #[(.pointer (some (Addr.mk b8 0 none))), (.bool false)])
             ) (
               jt []
             ))]
        ) (
          C.all [
            (C.all [
               (jt []),
               (jt [])]),
            (jt [])]
        )
      )
    ) (
      C.ret (.tuple #[(.pointer (some (Addr.mk b8 0 none))), (.bool true)])
    )
  )
theorem spec_l05Open_eq (C : Comb) (x0 : Addr) : fT C Tryz.prog { loop := [(5, [(5, (.int .i64))])], join := [(165, []), (37, [])], anyOrder := [10, 12, 13], pure := [] } n_spec_l05Open [(.pointer (some x0))] = spec_l05Open C x0 := by kernel_rfl
theorem spec_l05Open_calls {R : Value → World → Prop} {w : World} (x0 : Addr) (h : (spec_l05Open (real Tryz.prog R) x0 : World → Prop) w) :
    Calls Tryz.prog n_spec_l05Open [(.pointer (some x0))].toArray w fun e w' => ∃ v, e = .returned v ∧ R v w' := fT_sound mixed { loop := [(5, [(5, (.int .i64))])], join := [(165, []), (37, [])], anyOrder := [10, 12, 13], pure := [] } (by rw [spec_l05Open_eq]; exact h)

/-- (*spec.l05Store).counts (48) -/
def ptr_spec_l05Store_counts (C : Comb) (x0 : Addr) : C.St :=
  C.ld .slice 1 (x0.add 1) fun v11 =>
  C.sem (Instr.makeSlice ty_sl_int64 (.int .i64 (v11.n : Int)) (.int .i64 (v11.n : Int))) .slice fun y13 =>
  C.loop (TL [(.int .i64)]) (embL [(.int .i64)]) [(.int .i64 0)] fun s3 ct3 => C.any fun _ =>
  C.ld .slice 1 (x0.add 0) fun v18 =>
  cond (decide (s3 < (v18.n : Int))) (
    C.ld .slice 1 (x0.add 0) fun v26 =>
    C.ix v26.a v26.n 2 s3 fun p28 =>
    C.call n_spec_l05Links [(.pointer (some p28))] [.slice] fun r29 =>
    C.loop (TL [(.int .i64)]) (embL [(.int .i64)]) [(.int .i64 0)] fun s8 ct8 => C.any fun _ =>
    cond (decide (s8 < (r29.n : Int))) (
      C.ix r29.a r29.n 32 s8 fun p39 =>
      C.ld .agg 32 p39 fun v40 =>
      C.call n_ptr_spec_l05Store_find [(.pointer (some x0)), (.agg v40)] [(.int .i64)] fun r41 =>
      cond (decide (r41 ≥ 0)) (
        C.ix y13.a y13.n 1 r41 fun p46 =>
        C.ld (.int .i64) 1 p46 fun v47 =>
        C.ix y13.a y13.n 1 r41 fun p49 =>
        C.st 1 p49 (.int .i64 (IntKind.wrap .i64 (v47 + 1))) <|
        ct8 [(.int .i64 (IntKind.wrap .i64 (s8 + 1)))]
      ) (
        ct8 [(.int .i64 (IntKind.wrap .i64 (s8 + 1)))]
      )
    ) (
      ct3 [(.int .i64 (IntKind.wrap .i64 (s3 + 1)))]
    )
  ) (
    C.ret (.slice y13.a y13.n y13.c)
  )
theorem ptr_spec_l05Store_counts_eq (C : Comb) (x0 : Addr) : fT C Tryz.prog { loop := [(3, [(4, (.int .i64))]), (7, [(6, (.int .i64))])], join := [], anyOrder := [], pure := [] } n_ptr_spec_l05Store_counts [(.pointer (some x0))] = ptr_spec_l05Store_counts C x0 := by kernel_rfl
theorem ptr_spec_l05Store_counts_calls {R : Value → World → Prop} {w : World} (x0 : Addr) (h : (ptr_spec_l05Store_counts (real Tryz.prog R) x0 : World → Prop) w) :
    Calls Tryz.prog n_ptr_spec_l05Store_counts [(.pointer (some x0))].toArray w fun e w' => ∃ v, e = .returned v ∧ R v w' := fT_sound mixed { loop := [(3, [(4, (.int .i64))]), (7, [(6, (.int .i64))])], join := [], anyOrder := [], pure := [] } (by rw [ptr_spec_l05Store_counts_eq]; exact h)

/-- laws.toBlobS (49) -/
def laws_toBlobS (C : Comb) (x0 : Sl) : C.St :=
  C.sem (Instr.makeSlice ty_sl_impl_Blob (.int .i64 (x0.n : Int)) (.int .i64 (x0.n : Int))) .slice fun y7 =>
  C.loop (TL [(.int .i64)]) (embL [(.int .i64)]) [(.int .i64 0)] fun s2 ct2 => C.any fun _ =>
  cond (decide (s2 < (x0.n : Int))) (
    C.ix x0.a x0.n 2 s2 fun p18 =>
    C.ld .agg 2 p18 fun v19 =>
    C.call n_laws_toBlob [(.agg v19)] [.agg] fun r20 =>
    C.ix y7.a y7.n 2 s2 fun p21 =>
    C.st 2 p21 (.agg r20) <|
    ct2 [(.int .i64 (IntKind.wrap .i64 (s2 + 1)))]
  ) (
    C.ret (.slice y7.a y7.n y7.c)
  )
theorem laws_toBlobS_eq (C : Comb) (x0 : Sl) : fT C Tryz.prog { loop := [(3, [(4, (.int .i64))])], join := [], anyOrder := [], pure := [] } n_laws_toBlobS [(.slice x0.a x0.n x0.c)] = laws_toBlobS C x0 := by kernel_rfl
theorem laws_toBlobS_calls {R : Value → World → Prop} {w : World} (x0 : Sl) (h : (laws_toBlobS (real Tryz.prog R) x0 : World → Prop) w) :
    Calls Tryz.prog n_laws_toBlobS [(.slice x0.a x0.n x0.c)].toArray w fun e w' => ∃ v, e = .returned v ∧ R v w' := fT_sound mixed { loop := [(3, [(4, (.int .i64))])], join := [], anyOrder := [], pure := [] } (by rw [laws_toBlobS_eq]; exact h)

/-- impl.newShop (50) -/
def impl_newShop (C : Comb) (x0 : Array Value) : C.St :=
  C.new ty_impl_Store (.agg x0) fun b1 =>
  C.ld .agg 1 (Addr.mk b1 0 none) fun v4 =>
  C.call n_impl_ValidStore [(.agg v4)] [.bool] fun r5 =>
  cond (!r5) (
    C.ret (.tuple #[(.pointer none), (.bool false)])
  ) (
    C.draw <|
    C.ld .agg 1 (Addr.mk b1 0 none) fun v7 =>
    C.ld .slice 1 ((Addr.mk b1 0 none).add 0) fun v10 =>
    C.call n_impl_Store_keys [(.agg v7)] [.slice] fun r8 =>
    C.chk [⟨3, 1, ((Addr.mk b1 0 none).add 0), .slice, v10⟩] <|
    C.call n_slices_Clone_sl_impl_Blob_impl_Blob [(.slice v10.a v10.n v10.c)] [.slice] fun r11 =>
    C.pur (Instr.build ty_impl_shop #[(0, (.slice r8.a r8.n r8.c)), (1, (.slice r11.a r11.n r11.c))]) .agg fun y12 =>
    C.new ty_impl_shop (.agg y12) fun b13 =>
    C.ret (.tuple #[(.pointer (some (Addr.mk b13 0 none))), (.bool true)])
  )
theorem impl_newShop_eq (C : Comb) (x0 : Array Value) : fT C Tryz.prog { loop := [], join := [], anyOrder := [3], pure := [] } n_impl_newShop [(.agg x0)] = impl_newShop C x0 := by kernel_rfl
theorem impl_newShop_calls {R : Value → World → Prop} {w : World} (x0 : Array Value) (h : (impl_newShop (real Tryz.prog R) x0 : World → Prop) w) :
    Calls Tryz.prog n_impl_newShop [(.agg x0)].toArray w fun e w' => ∃ v, e = .returned v ∧ R v w' := fT_sound mixed { loop := [], join := [], anyOrder := [3], pure := [] } (by rw [impl_newShop_eq]; exact h)

/-- (*impl.shop).counts (51) -/
def ptr_impl_shop_counts (C : Comb) (x0 : Addr) : C.St :=
  C.ld .slice 1 (x0.add 0) fun v13 =>
  C.sem (Instr.makeSlice ty_sl_int64 (.int .i64 (v13.n : Int)) (.int .i64 (v13.n : Int))) .slice fun y15 =>
  C.ld .slice 1 (x0.add 1) fun v19 =>
  C.loop (TL [(.int .i64)]) (embL [(.int .i64)]) [(.int .i64 0)] fun s4 ct4 => C.any fun _ =>
  cond (decide (s4 < (v19.n : Int))) (
    C.ix v19.a v19.n 2 s4 fun p23 =>
    C.ld .agg 2 p23 fun v24 =>
    C.new ty_impl_Blob (.agg (#[(.int .u8 0), (.slice none 0 0)])) fun b5 =>
    C.st 2 (Addr.mk b5 0 none) (.agg v24) <|
    C.ld .agg 2 (Addr.mk b5 0 none) fun v25 =>
    C.call n_impl_Blob_links [(.agg v25)] [.slice] fun r26 =>
    C.loop (TL [(.int .i64)]) (embL [(.int .i64)]) [(.int .i64 0)] fun s10 ct10 => C.any fun _ =>
    cond (decide (s10 < (r26.n : Int))) (
      C.ix r26.a r26.n 32 s10 fun p30 =>
      C.ld .agg 32 p30 fun v31 =>
      C.new ty_impl_Key (.agg (Array.replicate 32 (.int .u8 0))) fun b7 =>
      C.st 32 (Addr.mk b7 0 none) (.agg v31) <|
      C.ld .agg 32 (Addr.mk b7 0 none) fun v34 =>
      C.call n_ptr_impl_shop_find [(.pointer (some x0)), (.agg v34)] [(.int .i64), .bool] fun r35 =>
      cond r35.2 (
        C.ix y15.a y15.n 1 r35.1 fun p41 =>
        C.ld (.int .i64) 1 p41 fun v42 =>
        C.ix y15.a y15.n 1 r35.1 fun p44 =>
        C.st 1 p44 (.int .i64 (IntKind.wrap .i64 (v42 + 1))) <|
        ct10 [(.int .i64 (IntKind.wrap .i64 (s10 + 1)))]
      ) (
        ct10 [(.int .i64 (IntKind.wrap .i64 (s10 + 1)))]
      )
    ) (
      ct4 [(.int .i64 (IntKind.wrap .i64 (s4 + 1)))]
    )
  ) (
    C.ret (.slice y15.a y15.n y15.c)
  )
theorem ptr_impl_shop_counts_eq (C : Comb) (x0 : Addr) : fT C Tryz.prog { loop := [(3, [(21, (.int .i64))]), (6, [(28, (.int .i64))])], join := [], anyOrder := [], pure := [] } n_ptr_impl_shop_counts [(.pointer (some x0))] = ptr_impl_shop_counts C x0 := by kernel_rfl
theorem ptr_impl_shop_counts_calls {R : Value → World → Prop} {w : World} (x0 : Addr) (h : (ptr_impl_shop_counts (real Tryz.prog R) x0 : World → Prop) w) :
    Calls Tryz.prog n_ptr_impl_shop_counts [(.pointer (some x0))].toArray w fun e w' => ∃ v, e = .returned v ∧ R v w' := fT_sound mixed { loop := [(3, [(21, (.int .i64))]), (6, [(28, (.int .i64))])], join := [], anyOrder := [], pure := [] } (by rw [ptr_impl_shop_counts_eq]; exact h)

/-- laws.eqBlobS (52) -/
def laws_eqBlobS (C : Comb) (x0 : Sl) (x1 : Sl) : C.St :=
  cond ((x0.n : Int) != (x1.n : Int)) (
    C.ret (.bool false)
  ) (
    C.loop (TL [(.int .i64)]) (embL [(.int .i64)]) [(.int .i64 0)] fun s1 ct1 => C.any fun _ =>
    cond (decide (s1 < (x0.n : Int))) (
      C.draw <|
      C.ix x0.a x0.n 2 s1 fun p19 =>
      C.ld .agg 2 p19 fun v20 =>
      C.ix x1.a x1.n 2 s1 fun p23 =>
      C.ld .agg 2 p23 fun v24 =>
      C.call n_laws_eqBlob [(.agg v20), (.agg v24)] [.bool] fun r25 =>
      cond (!r25) (
        C.ret (.bool false)
      ) (
        ct1 [(.int .i64 (IntKind.wrap .i64 (s1 + 1)))]
      )
    ) (
      C.ret (.bool true)
    )
  )
theorem laws_eqBlobS_eq (C : Comb) (x0 : Sl) (x1 : Sl) : fT C Tryz.prog { loop := [(4, [(5, (.int .i64))])], join := [], anyOrder := [6], pure := [] } n_laws_eqBlobS [(.slice x0.a x0.n x0.c), (.slice x1.a x1.n x1.c)] = laws_eqBlobS C x0 x1 := by kernel_rfl
theorem laws_eqBlobS_calls {R : Value → World → Prop} {w : World} (x0 : Sl) (x1 : Sl) (h : (laws_eqBlobS (real Tryz.prog R) x0 x1 : World → Prop) w) :
    Calls Tryz.prog n_laws_eqBlobS [(.slice x0.a x0.n x0.c), (.slice x1.a x1.n x1.c)].toArray w fun e w' => ∃ v, e = .returned v ∧ R v w' := fT_sound mixed { loop := [(4, [(5, (.int .i64))])], join := [], anyOrder := [6], pure := [] } (by rw [laws_eqBlobS_eq]; exact h)

/-- laws.markBlobS (53) -/
def laws_markBlobS (C : Comb) (x0 : Sl) (x1 : Int) : C.St :=
  C.loop (TL [(.int .i64), (.int .i64)]) (embL [(.int .i64), (.int .i64)]) [(.int .i64 x1), (.int .i64 0)] fun s1 ct1 => C.any fun _ =>
  cond (decide (s1.2 < (x0.n : Int))) (
    C.ix x0.a x0.n 2 s1.2 fun p16 =>
    C.st 1 (p16.add 0) (.int .u8 (IntKind.wrap .u8 (s1.1))) <|
    C.ix x0.a x0.n 2 s1.2 fun p22 =>
    C.ld .slice 1 (p22.add 1) fun v24 =>
    C.call n_laws_markByteS [(.slice v24.a v24.n v24.c), (.int .i64 (IntKind.wrap .i64 (s1.1 + 1)))] [(.int .i64)] fun r26 =>
    ct1 [(.int .i64 r26), (.int .i64 (IntKind.wrap .i64 (s1.2 + 1)))]
  ) (
    C.ret (.int .i64 s1.1)
  )
theorem laws_markBlobS_eq (C : Comb) (x0 : Sl) (x1 : Int) : fT C Tryz.prog { loop := [(2, [(1, (.int .i64)), (5, (.int .i64))])], join := [], anyOrder := [], pure := [] } n_laws_markBlobS [(.slice x0.a x0.n x0.c), (.int .i64 x1)] = laws_markBlobS C x0 x1 := by kernel_rfl
theorem laws_markBlobS_calls {R : Value → World → Prop} {w : World} (x0 : Sl) (x1 : Int) (h : (laws_markBlobS (real Tryz.prog R) x0 x1 : World → Prop) w) :
    Calls Tryz.prog n_laws_markBlobS [(.slice x0.a x0.n x0.c), (.int .i64 x1)].toArray w fun e w' => ∃ v, e = .returned v ∧ R v w' := fT_sound mixed { loop := [(2, [(1, (.int .i64)), (5, (.int .i64))])], join := [], anyOrder := [], pure := [] } (by rw [laws_markBlobS_eq]; exact h)

/-- laws.szByteS (54) -/
def laws_szByteS (C : Comb) (x0 : Sl) (x1 : Int) : C.St :=
  cond (decide ((IntKind.wrap .i64 (x1 - (x0.n : Int))) < 0)) (
    C.ret (.int .i64 (-1))
  ) (
    C.ret (.int .i64 (IntKind.wrap .i64 (x1 - (x0.n : Int))))
  )
theorem laws_szByteS_eq (C : Comb) (x0 : Sl) (x1 : Int) : fT C Tryz.prog { loop := [], join := [], anyOrder := [], pure := [] } n_laws_szByteS [(.slice x0.a x0.n x0.c), (.int .i64 x1)] = laws_szByteS C x0 x1 := by kernel_rfl
theorem laws_szByteS_calls {R : Value → World → Prop} {w : World} (x0 : Sl) (x1 : Int) (h : (laws_szByteS (real Tryz.prog R) x0 x1 : World → Prop) w) :
    Calls Tryz.prog n_laws_szByteS [(.slice x0.a x0.n x0.c), (.int .i64 x1)].toArray w fun e w' => ∃ v, e = .returned v ∧ R v w' := fT_sound mixed { loop := [], join := [], anyOrder := [], pure := [] } (by rw [laws_szByteS_eq]; exact h)

/-- spec.l05Blob (55) -/
def spec_l05Blob (C : Comb) (x0 : Addr) : C.St :=
  C.ld .slice 1 (x0.add 1) fun v6 =>
  C.ret (.bool (decide ((v6.n : Int) ≤ 1024)))
theorem spec_l05Blob_eq (C : Comb) (x0 : Addr) : fT C Tryz.prog { loop := [], join := [], anyOrder := [], pure := [] } n_spec_l05Blob [(.pointer (some x0))] = spec_l05Blob C x0 := by kernel_rfl
theorem spec_l05Blob_calls {R : Value → World → Prop} {w : World} (x0 : Addr) (h : (spec_l05Blob (real Tryz.prog R) x0 : World → Prop) w) :
    Calls Tryz.prog n_spec_l05Blob [(.pointer (some x0))].toArray w fun e w' => ∃ v, e = .returned v ∧ R v w' := fT_sound mixed { loop := [], join := [], anyOrder := [], pure := [] } (by rw [spec_l05Blob_eq]; exact h)

/-- (*spec.l05Store).put (56) -/
def ptr_spec_l05Store_put (C : Comb) (x0 : Addr) (x1 : Array Value) : C.St :=
  C.new ty_impl_Blob (.agg x1) fun b3 =>
  C.new ty_impl_Key (.agg (Array.replicate 32 (.int .u8 0))) fun b4 =>
  C.call n_spec_l05Key [(.pointer (some (Addr.mk b3 0 none)))] [.agg] fun r10 =>
  C.new ty_impl_Key (.agg (Array.replicate 32 (.int .u8 0))) fun b6 =>
  C.st 32 (Addr.mk b6 0 none) (.agg r10) <|
  C.join (TL [(.int .i64)]) (embL [(.int .i64)]) (fun s20 => C.any fun _ =>
      C.join (TL [.bool]) (embL [.bool]) (fun s27 => C.any fun _ =>
          cond s27 (
            C.ld .slice 1 (x0.add 0) fun v53 =>
            C.ix v53.a v53.n 2 s20 fun p55 =>
            C.call n_spec_l05SameBlob [(.pointer (some p55)), (.pointer (some (Addr.mk b3 0 none)))] [.bool] fun r56 =>
            cond (!r56) (
              C.st 32 (Addr.mk b4 0 none) (.agg (Array.replicate 32 (.int .u8 0))) <|
              C.ld .agg 32 (Addr.mk b4 0 none) fun z31 =>
              C.ret (.tuple #[(.agg z31), (.int .i64 8)])
            ) (
              C.ld .agg 32 (Addr.mk b6 0 none) fun v59 =>
              C.st 32 (Addr.mk b4 0 none) (.agg v59) <|
              C.ld .agg 32 (Addr.mk b4 0 none) fun z33 =>
              C.ret (.tuple #[(.agg z33), (.int .i64 0)])
            )
          ) (
            C.ld .slice 1 (x0.add 1) fun v63 =>
            cond (decide ((v63.n : Int) ≥ 128)) (
              C.st 32 (Addr.mk b4 0 none) (.agg (Array.replicate 32 (.int .u8 0))) <|
              C.ld .agg 32 (Addr.mk b4 0 none) fun z35 =>
              C.ret (.tuple #[(.agg z35), (.int .i64 3)])
            ) (
              C.join (TL [.slice]) (embL [.slice]) (fun s41 => C.any fun _ =>
                  C.sem (Instr.buildSlice ty_sl_impl_Blob 0 #[]) .slice fun y77 =>
                  C.ld .slice 1 (x0.add 0) fun v81 =>
                  C.sl v81.a v81.n v81.c 2 none (some s20) none fun y83 =>
                  C.sem (Builtin.append_ #[ty_sl_impl_Blob, ty_sl_impl_Blob] ty_sl_impl_Blob #[(.slice y77.a y77.n y77.c), (.slice y83.a y83.n y83.c)]) .slice fun y84 =>
                  C.sem (Builtin.append_ #[ty_sl_impl_Blob, ty_sl_impl_Blob] ty_sl_impl_Blob #[(.slice y84.a y84.n y84.c), (.slice s41.a s41.n s41.c)]) .slice fun y86 =>
                  C.st 1 (x0.add 0) (.slice y86.a y86.n y86.c) <|
                  C.join (TL [.slice]) (embL [.slice]) (fun s52 => C.any fun _ =>
                      C.sem (Instr.buildSlice ty_sl_impl_Key 0 #[]) .slice fun y99 =>
                      C.ld .slice 1 (x0.add 1) fun v103 =>
                      C.sl v103.a v103.n v103.c 32 none (some s20) none fun y105 =>
                      C.sem (Builtin.append_ #[ty_sl_impl_Key, ty_sl_impl_Key] ty_sl_impl_Key #[(.slice y99.a y99.n y99.c), (.slice y105.a y105.n y105.c)]) .slice fun y106 =>
                      C.sem (Builtin.append_ #[ty_sl_impl_Key, ty_sl_impl_Key] ty_sl_impl_Key #[(.slice y106.a y106.n y106.c), (.slice s52.a s52.n s52.c)]) .slice fun y108 =>
                      C.st 1 (x0.add 1) (.slice y108.a y108.n y108.c) <|
                      C.ld .agg 32 (Addr.mk b6 0 none) fun v111 =>
                      C.st 32 (Addr.mk b4 0 none) (.agg v111) <|
                      C.ld .agg 32 (Addr.mk b4 0 none) fun z59 =>
                      C.ret (.tuple #[(.agg z59), (.int .i64 0)])
                    ) fun jt =>
                  C.draw <|
                  C.ld .agg 32 (Addr.mk b6 0 none) fun v89 =>
                  C.ld .slice 1 (x0.add 1) fun v94 =>
                  C.sl v94.a v94.n v94.c 32 (some s20) none none fun y96 =>
                  C.sem (Instr.buildSlice ty_sl_impl_Key 1 #[(0, (.agg v89))]) .slice fun y90 =>
                  C.chk [⟨5, 1, (x0.add 1), .slice, v94⟩] <|
                  C.sem (Builtin.append_ #[ty_sl_impl_Key, ty_sl_impl_Key] ty_sl_impl_Key #[(.slice y90.a y90.n y90.c), (.slice y96.a y96.n y96.c)]) .slice fun y97 =>
                  C.chk [⟨5, 1, (x0.add 1), .slice, v94⟩] <|
                  jt [(.slice y97.a y97.n y97.c)]
                ) fun jt =>
              C.draw <|
              C.ld .agg 2 (Addr.mk b3 0 none) fun v67 =>
              C.ld .slice 1 (x0.add 0) fun v72 =>
              C.sl v72.a v72.n v72.c 2 (some s20) none none fun y74 =>
              C.sem (Instr.buildSlice ty_sl_impl_Blob 1 #[(0, (.agg v67))]) .slice fun y68 =>
              C.chk [⟨5, 1, (x0.add 0), .slice, v72⟩] <|
              C.sem (Builtin.append_ #[ty_sl_impl_Blob, ty_sl_impl_Blob] ty_sl_impl_Blob #[(.slice y68.a y68.n y68.c), (.slice y74.a y74.n y74.c)]) .slice fun y75 =>
              C.chk [⟨5, 1, (x0.add 0), .slice, v72⟩] <|
              jt [(.slice y75.a y75.n y75.c)]
            )
          )
        ) fun jt =>
      C.draw <|
      C.ld .slice 1 (x0.add 1) fun v36 =>
      cond (decide (s20 < (v36.n : Int))) (
        C.ld .slice 1 (x0.add 1) fun v43 =>
        C.ix v43.a v43.n 32 s20 fun p45 =>
        C.ld .agg 32 p45 fun v46 =>
        C.ld .agg 32 (Addr.mk b6 0 none) fun v47 =>
        C.pur (eqB .eql ty_impl_Key (.tmp 46) (.tmp 47) (.agg v46) (.agg v47)) .bool fun y48 =>
        jt [(.bool y48)]
      ) (
        jt [(.bool false)]
      )
    ) fun jt =>
  C.loop (TL [(.int .i64)]) (embL [(.int .i64)]) [(.int .i64 0)] fun s5 ct5 => C.any fun _ =>
  C.draw <|
  C.ld .slice 1 (x0.add 1) fun v15 =>
  cond (decide (s5 < (v15.n : Int))) (
    C.all [
      (C.ld .slice 1 (x0.add 1) fun v22 =>
       C.chk [⟨4, 1, (x0.add 1), .slice, v15⟩] <|
       C.ix v22.a v22.n 32 s5 fun p24 =>
       C.all [
         (C.ld .agg 32 p24 fun v25 =>
          C.chk [⟨4, 1, (x0.add 1), .slice, v15⟩] <|
          C.ld .agg 32 (Addr.mk b6 0 none) fun v26 =>
          C.chk [⟨4, 1, (x0.add 1), .slice, v15⟩] <|
          C.call n_spec_l01Compare [(.agg v25), (.agg v26)] [(.int .i64)] fun r27 =>
          C.chk [⟨4, 1, (x0.add 1), .slice, v15⟩] <|
          cond (decide (r27 < 0)) (
            ct5 [(.int .i64 (IntKind.wrap .i64 (s5 + 1)))]
          ) (
            jt [(.int .i64 s5)]
          )),
         (C.ld .agg 32 (Addr.mk b6 0 none) fun v26 =>
          C.chk [⟨4, 1, (x0.add 1), .slice, v15⟩] <|
          C.ld .agg 32 p24 fun v25 =>
          C.chk [⟨4, 1, (x0.add 1), .slice, v15⟩] <|
          C.call n_spec_l01Compare [(.agg v25), (.agg v26)] [(.int .i64)] fun r27 =>
          C.chk [⟨4, 1, (x0.add 1), .slice, v15⟩] <|
          cond (decide (r27 < 0)) (
            ct5 [(.int .i64 (IntKind.wrap .i64 (s5 + 1)))]
          ) (
            jt [(.int .i64 s5)]
          ))]),
      (C.ld .agg 32 (Addr.mk b6 0 none) fun v26 =>
       C.chk [⟨4, 1, (x0.add 1), .slice, v15⟩] <|
       C.ld .slice 1 (x0.add 1) fun v22 =>
       C.chk [⟨4, 1, (x0.add 1), .slice, v15⟩] <|
       C.ix v22.a v22.n 32 s5 fun p24 =>
       C.ld .agg 32 p24 fun v25 =>
       C.chk [⟨4, 1, (x0.add 1), .slice, v15⟩] <|
       C.call n_spec_l01Compare [(.agg v25), (.agg v26)] [(.int .i64)] fun r27 =>
       C.chk [⟨4, 1, (x0.add 1), .slice, v15⟩] <|
       cond (decide (r27 < 0)) (
         ct5 [(.int .i64 (IntKind.wrap .i64 (s5 + 1)))]
       ) (
         jt [(.int .i64 s5)]
       ))]
  ) (
    C.all [
      (C.chk [⟨4, 1, (x0.add 1), .slice, v15⟩] <|
       C.all [
         (C.chk [⟨4, 1, (x0.add 1), .slice, v15⟩] <|
          C.chk [⟨4, 1, (x0.add 1), .slice, v15⟩] <|
          C.chk [⟨4, 1, (x0.add 1), .slice, v15⟩] <|
          jt [(.int .i64 s5)]),
         (C.chk [⟨4, 1, (x0.add 1), .slice, v15⟩] <|
          C.chk [⟨4, 1, (x0.add 1), .slice, v15⟩] <|
          C.chk [⟨4, 1, (x0.add 1), .slice, v15⟩] <|
          jt [(.int .i64 s5)])]),
      (C.chk [⟨4, 1, (x0.add 1), .slice, v15⟩] <|
       C.chk [⟨4, 1, (x0.add 1), .slice, v15⟩] <|
       C.chk [⟨4, 1, (x0.add 1), .slice, v15⟩] <|
       C.chk [⟨4, 1, (x0.add 1), .slice, v15⟩] <|
       jt [(.int .i64 s5)])]
  )
theorem ptr_spec_l05Store_put_eq (C : Comb) (x0 : Addr) (x1 : Array Value) : fT C Tryz.prog { loop := [(3, [(7, (.int .i64))])], join := [(11, [(7, (.int .i64))]), (16, [(49, .bool)]), (34, [(8, .slice)]), (40, [(9, .slice)])], anyOrder := [3, 11, 13], pure := [] } n_ptr_spec_l05Store_put [(.pointer (some x0)), (.agg x1)] = ptr_spec_l05Store_put C x0 x1 := by kernel_rfl
theorem ptr_spec_l05Store_put_calls {R : Value → World → Prop} {w : World} (x0 : Addr) (x1 : Array Value) (h : (ptr_spec_l05Store_put (real Tryz.prog R) x0 x1 : World → Prop) w) :
    Calls Tryz.prog n_ptr_spec_l05Store_put [(.pointer (some x0)), (.agg x1)].toArray w fun e w' => ∃ v, e = .returned v ∧ R v w' := fT_sound mixed { loop := [(3, [(7, (.int .i64))])], join := [(11, [(7, (.int .i64))]), (16, [(49, .bool)]), (34, [(8, .slice)]), (40, [(9, .slice)])], anyOrder := [3, 11, 13], pure := [] } (by rw [ptr_spec_l05Store_put_eq]; exact h)

/-- spec.l05Made (57) -/
def spec_l05Made (C : Comb) (x0 : Addr) (x1 : Array Value) (x2 : Int) : C.St :=
  C.new ty_impl_Key (.agg x1) fun b4 =>
  C.new ty_impl_Store (.agg (#[(.slice none 0 0)])) fun b6 =>
  C.new ty_impl_Key (.agg (Array.replicate 32 (.int .u8 0))) fun b7 =>
  cond (x2 != 0) (
    C.pur (Instr.build ty_impl_Store #[]) .agg fun y11 =>
    C.st 1 (Addr.mk b6 0 none) (.agg y11) <|
    C.st 32 (Addr.mk b7 0 none) (.agg (Array.replicate 32 (.int .u8 0))) <|
    C.ld .agg 1 (Addr.mk b6 0 none) fun z5 =>
    C.ld .agg 32 (Addr.mk b7 0 none) fun z6 =>
    C.ret (.tuple #[(.agg z5), (.agg z6), (.int .i64 x2)])
  ) (
    C.draw <|
    C.ld .agg 32 (Addr.mk b4 0 none) fun v16 =>
    C.call n_ptr_spec_l05Store_store [(.pointer (some x0))] [.agg] fun r15 =>
    C.chk [⟨2, 32, (Addr.mk b4 0 none), .agg, v16⟩] <|
    C.st 1 (Addr.mk b6 0 none) (.agg r15) <|
    C.chk [⟨2, 32, (Addr.mk b4 0 none), .agg, v16⟩] <|
    C.st 32 (Addr.mk b7 0 none) (.agg v16) <|
    C.ld .agg 1 (Addr.mk b6 0 none) fun z9 =>
    C.ld .agg 32 (Addr.mk b7 0 none) fun z10 =>
    C.ret (.tuple #[(.agg z9), (.agg z10), (.int .i64 0)])
  )
theorem spec_l05Made_eq (C : Comb) (x0 : Addr) (x1 : Array Value) (x2 : Int) : fT C Tryz.prog { loop := [], join := [], anyOrder := [3], pure := [] } n_spec_l05Made [(.pointer (some x0)), (.agg x1), (.int .i64 x2)] = spec_l05Made C x0 x1 x2 := by kernel_rfl
theorem spec_l05Made_calls {R : Value → World → Prop} {w : World} (x0 : Addr) (x1 : Array Value) (x2 : Int) (h : (spec_l05Made (real Tryz.prog R) x0 x1 x2 : World → Prop) w) :
    Calls Tryz.prog n_spec_l05Made [(.pointer (some x0)), (.agg x1), (.int .i64 x2)].toArray w fun e w' => ∃ v, e = .returned v ∧ R v w' := fT_sound mixed { loop := [], join := [], anyOrder := [3], pure := [] } (by rw [spec_l05Made_eq]; exact h)

/-- laws.toByteS (58) -/
def laws_toByteS (C : Comb) (x0 : Sl) : C.St :=
  C.sem (Instr.makeSlice ty_sl_uint8 (.int .i64 (x0.n : Int)) (.int .i64 (x0.n : Int))) .slice fun y7 =>
  C.loop (TL [(.int .i64)]) (embL [(.int .i64)]) [(.int .i64 0)] fun s2 ct2 => C.any fun _ =>
  cond (decide (s2 < (x0.n : Int))) (
    C.ix x0.a x0.n 1 s2 fun p18 =>
    C.ld (.int .u8) 1 p18 fun v19 =>
    C.ix y7.a y7.n 1 s2 fun p20 =>
    C.st 1 p20 (.int .u8 v19) <|
    ct2 [(.int .i64 (IntKind.wrap .i64 (s2 + 1)))]
  ) (
    C.ret (.slice y7.a y7.n y7.c)
  )
theorem laws_toByteS_eq (C : Comb) (x0 : Sl) : fT C Tryz.prog { loop := [(3, [(4, (.int .i64))])], join := [], anyOrder := [], pure := [] } n_laws_toByteS [(.slice x0.a x0.n x0.c)] = laws_toByteS C x0 := by kernel_rfl
theorem laws_toByteS_calls {R : Value → World → Prop} {w : World} (x0 : Sl) (h : (laws_toByteS (real Tryz.prog R) x0 : World → Prop) w) :
    Calls Tryz.prog n_laws_toByteS [(.slice x0.a x0.n x0.c)].toArray w fun e w' => ∃ v, e = .returned v ∧ R v w' := fT_sound mixed { loop := [(3, [(4, (.int .i64))])], join := [], anyOrder := [], pure := [] } (by rw [laws_toByteS_eq]; exact h)

/-- impl.ValidBlob (59) -/
def impl_ValidBlob (C : Comb) (x0 : Array Value) : C.St :=
  C.new ty_impl_Blob (.agg x0) fun b1 =>
  C.ld .slice 1 ((Addr.mk b1 0 none).add 1) fun v4 =>
  C.ret (.bool (decide ((v4.n : Int) ≤ 1024)))
theorem impl_ValidBlob_eq (C : Comb) (x0 : Array Value) : fT C Tryz.prog { loop := [], join := [], anyOrder := [], pure := [] } n_impl_ValidBlob [(.agg x0)] = impl_ValidBlob C x0 := by kernel_rfl
theorem impl_ValidBlob_calls {R : Value → World → Prop} {w : World} (x0 : Array Value) (h : (impl_ValidBlob (real Tryz.prog R) x0 : World → Prop) w) :
    Calls Tryz.prog n_impl_ValidBlob [(.agg x0)].toArray w fun e w' => ∃ v, e = .returned v ∧ R v w' := fT_sound mixed { loop := [], join := [], anyOrder := [], pure := [] } (by rw [impl_ValidBlob_eq]; exact h)

/-- (*impl.shop).putAll (60) -/
def ptr_impl_shop_putAll (C : Comb) (x0 : Addr) (x1 : Sl) : C.St :=
  C.new ty_impl_Store (.agg (#[(.slice none 0 0)])) fun b4 =>
  C.new ty_impl_Key (.agg (Array.replicate 32 (.int .u8 0))) fun b5 =>
  C.new ty_impl_Key (.agg (Array.replicate 32 (.int .u8 0))) fun b7 =>
  C.st 32 (Addr.mk b7 0 none) (.agg (Array.replicate 32 (.int .u8 0))) <|
  C.loop (TL [(.int .i64)]) (embL [(.int .i64)]) [(.int .i64 0)] fun s4 ct4 => C.any fun _ =>
  cond (decide (s4 < (x1.n : Int))) (
    C.ix x1.a x1.n 2 s4 fun p16 =>
    C.ld .agg 2 p16 fun v17 =>
    C.new ty_impl_Blob (.agg (#[(.int .u8 0), (.slice none 0 0)])) fun b10 =>
    C.st 2 (Addr.mk b10 0 none) (.agg v17) <|
    C.ld .agg 2 (Addr.mk b10 0 none) fun v20 =>
    C.call n_ptr_impl_shop_put [(.pointer (some x0)), (.agg v20)] [.agg, (.int .i64)] fun r21 =>
    C.st 32 (Addr.mk b7 0 none) (.agg r21.1) <|
    cond (r21.2 != 0) (
      C.pur (Instr.build ty_impl_Store #[]) .agg fun y26 =>
      C.st 1 (Addr.mk b4 0 none) (.agg y26) <|
      C.st 32 (Addr.mk b5 0 none) (.agg (Array.replicate 32 (.int .u8 0))) <|
      C.ld .agg 1 (Addr.mk b4 0 none) fun z11 =>
      C.ld .agg 32 (Addr.mk b5 0 none) fun z12 =>
      C.ret (.tuple #[(.agg z11), (.agg z12), (.int .i64 r21.2)])
    ) (
      ct4 [(.int .i64 (IntKind.wrap .i64 (s4 + 1)))]
    )
  ) (
    C.draw <|
    C.ld .agg 32 (Addr.mk b7 0 none) fun v32 =>
    C.call n_ptr_impl_shop_store [(.pointer (some x0))] [.agg] fun r31 =>
    C.chk [⟨2, 32, (Addr.mk b7 0 none), .agg, v32⟩] <|
    C.st 1 (Addr.mk b4 0 none) (.agg r31) <|
    C.chk [⟨2, 32, (Addr.mk b7 0 none), .agg, v32⟩] <|
    C.st 32 (Addr.mk b5 0 none) (.agg v32) <|
    C.ld .agg 1 (Addr.mk b4 0 none) fun z15 =>
    C.ld .agg 32 (Addr.mk b5 0 none) fun z16 =>
    C.ret (.tuple #[(.agg z15), (.agg z16), (.int .i64 0)])
  )
theorem ptr_impl_shop_putAll_eq (C : Comb) (x0 : Addr) (x1 : Sl) : fT C Tryz.prog { loop := [(3, [(14, (.int .i64))])], join := [], anyOrder := [9], pure := [] } n_ptr_impl_shop_putAll [(.pointer (some x0)), (.slice x1.a x1.n x1.c)] = ptr_impl_shop_putAll C x0 x1 := by kernel_rfl
theorem ptr_impl_shop_putAll_calls {R : Value → World → Prop} {w : World} (x0 : Addr) (x1 : Sl) (h : (ptr_impl_shop_putAll (real Tryz.prog R) x0 x1 : World → Prop) w) :
    Calls Tryz.prog n_ptr_impl_shop_putAll [(.pointer (some x0)), (.slice x1.a x1.n x1.c)].toArray w fun e w' => ∃ v, e = .returned v ∧ R v w' := fT_sound mixed { loop := [(3, [(14, (.int .i64))])], join := [], anyOrder := [9], pure := [] } (by rw [ptr_impl_shop_putAll_eq]; exact h)

/-- laws.eqByteS (61) -/
def laws_eqByteS (C : Comb) (x0 : Sl) (x1 : Sl) : C.St :=
  cond ((x0.n : Int) != (x1.n : Int)) (
    C.ret (.bool false)
  ) (
    C.loop (TL [(.int .i64)]) (embL [(.int .i64)]) [(.int .i64 0)] fun s1 ct1 => C.any fun _ =>
    cond (decide (s1 < (x0.n : Int))) (
      C.draw <|
      C.ix x0.a x0.n 1 s1 fun p19 =>
      C.ld (.int .u8) 1 p19 fun v20 =>
      C.ix x1.a x1.n 1 s1 fun p23 =>
      C.ld (.int .u8) 1 p23 fun v24 =>
      cond (v20 != v24) (
        C.ret (.bool false)
      ) (
        ct1 [(.int .i64 (IntKind.wrap .i64 (s1 + 1)))]
      )
    ) (
      C.ret (.bool true)
    )
  )
theorem laws_eqByteS_eq (C : Comb) (x0 : Sl) (x1 : Sl) : fT C Tryz.prog { loop := [(4, [(5, (.int .i64))])], join := [], anyOrder := [], pure := [] } n_laws_eqByteS [(.slice x0.a x0.n x0.c), (.slice x1.a x1.n x1.c)] = laws_eqByteS C x0 x1 := by kernel_rfl
theorem laws_eqByteS_calls {R : Value → World → Prop} {w : World} (x0 : Sl) (x1 : Sl) (h : (laws_eqByteS (real Tryz.prog R) x0 x1 : World → Prop) w) :
    Calls Tryz.prog n_laws_eqByteS [(.slice x0.a x0.n x0.c), (.slice x1.a x1.n x1.c)].toArray w fun e w' => ∃ v, e = .returned v ∧ R v w' := fT_sound mixed { loop := [(4, [(5, (.int .i64))])], join := [], anyOrder := [], pure := [] } (by rw [laws_eqByteS_eq]; exact h)

/-- laws.markByteS (62) -/
def laws_markByteS (C : Comb) (x0 : Sl) (x1 : Int) : C.St :=
  C.loop (TL [(.int .i64), (.int .i64)]) (embL [(.int .i64), (.int .i64)]) [(.int .i64 x1), (.int .i64 0)] fun s1 ct1 => C.any fun _ =>
  cond (decide (s1.2 < (x0.n : Int))) (
    C.ix x0.a x0.n 1 s1.2 fun p16 =>
    C.st 1 p16 (.int .u8 (IntKind.wrap .u8 (s1.1))) <|
    ct1 [(.int .i64 (IntKind.wrap .i64 (s1.1 + 1))), (.int .i64 (IntKind.wrap .i64 (s1.2 + 1)))]
  ) (
    C.ret (.int .i64 s1.1)
  )
theorem laws_markByteS_eq (C : Comb) (x0 : Sl) (x1 : Int) : fT C Tryz.prog { loop := [(2, [(1, (.int .i64)), (5, (.int .i64))])], join := [], anyOrder := [], pure := [] } n_laws_markByteS [(.slice x0.a x0.n x0.c), (.int .i64 x1)] = laws_markByteS C x0 x1 := by kernel_rfl
theorem laws_markByteS_calls {R : Value → World → Prop} {w : World} (x0 : Sl) (x1 : Int) (h : (laws_markByteS (real Tryz.prog R) x0 x1 : World → Prop) w) :
    Calls Tryz.prog n_laws_markByteS [(.slice x0.a x0.n x0.c), (.int .i64 x1)].toArray w fun e w' => ∃ v, e = .returned v ∧ R v w' := fT_sound mixed { loop := [(2, [(1, (.int .i64)), (5, (.int .i64))])], join := [], anyOrder := [], pure := [] } (by rw [laws_markByteS_eq]; exact h)

/-- laws.heldBlobS (63) -/
def laws_heldBlobS (C : Comb) (x0 : Sl) (x1 : Int) : C.St :=
  C.loop (TL [(.int .i64), (.int .i64)]) (embL [(.int .i64), (.int .i64)]) [(.int .i64 x1), (.int .i64 0)] fun s1 ct1 => C.any fun _ =>
  cond (decide (s1.2 < (x0.n : Int))) (
    C.ix x0.a x0.n 2 s1.2 fun p14 =>
    C.ld (.int .u8) 1 (p14.add 0) fun v16 =>
    cond (v16 != (IntKind.wrap .u8 (s1.1))) (
      C.ret (.int .i64 (-1))
    ) (
      C.ix x0.a x0.n 2 s1.2 fun p24 =>
      C.ld .slice 1 (p24.add 1) fun v26 =>
      C.call n_laws_heldByteS [(.slice v26.a v26.n v26.c), (.int .i64 (IntKind.wrap .i64 (s1.1 + 1)))] [(.int .i64)] fun r28 =>
      cond (decide (r28 < 0)) (
        C.ret (.int .i64 (-1))
      ) (
        ct1 [(.int .i64 r28), (.int .i64 (IntKind.wrap .i64 (s1.2 + 1)))]
      )
    )
  ) (
    C.ret (.int .i64 s1.1)
  )
theorem laws_heldBlobS_eq (C : Comb) (x0 : Sl) (x1 : Int) : fT C Tryz.prog { loop := [(2, [(1, (.int .i64)), (5, (.int .i64))])], join := [], anyOrder := [], pure := [] } n_laws_heldBlobS [(.slice x0.a x0.n x0.c), (.int .i64 x1)] = laws_heldBlobS C x0 x1 := by kernel_rfl
theorem laws_heldBlobS_calls {R : Value → World → Prop} {w : World} (x0 : Sl) (x1 : Int) (h : (laws_heldBlobS (real Tryz.prog R) x0 x1 : World → Prop) w) :
    Calls Tryz.prog n_laws_heldBlobS [(.slice x0.a x0.n x0.c), (.int .i64 x1)].toArray w fun e w' => ∃ v, e = .returned v ∧ R v w' := fT_sound mixed { loop := [(2, [(1, (.int .i64)), (5, (.int .i64))])], join := [], anyOrder := [], pure := [] } (by rw [laws_heldBlobS_eq]; exact h)

/-- (*spec.l05Store).store (64) -/
def ptr_spec_l05Store_store (C : Comb) (x0 : Addr) : C.St :=
  C.new ty_impl_Store (.agg (#[(.slice none 0 0)])) fun b2 =>
  C.pur (Instr.build ty_impl_Store #[]) .agg fun y5 =>
  C.new ty_impl_Store (.agg (#[(.slice none 0 0)])) fun b3 =>
  C.st 1 (Addr.mk b3 0 none) (.agg y5) <|
  C.loop (TL [(.int .i64)]) (embL [(.int .i64)]) [(.int .i64 0)] fun s4 ct4 => C.any fun _ =>
  C.ld .slice 1 (x0.add 0) fun v10 =>
  cond (decide (s4 < (v10.n : Int))) (
    C.draw <|
    C.ld .slice 1 ((Addr.mk b3 0 none).add 0) fun v16 =>
    C.ld .slice 1 (x0.add 0) fun v20 =>
    C.ix v20.a v20.n 2 s4 fun p22 =>
    C.ld .agg 2 p22 fun v23 =>
    C.call n_spec_l05Copy [(.agg v23)] [.agg] fun r24 =>
    C.chk [⟨5, 1, (x0.add 0), .slice, v20⟩, ⟨1, 1, ((Addr.mk b3 0 none).add 0), .slice, v16⟩] <|
    C.sem (Instr.buildSlice ty_sl_impl_Blob 1 #[(0, (.agg r24))]) .slice fun y25 =>
    C.chk [⟨5, 1, (x0.add 0), .slice, v20⟩, ⟨1, 1, ((Addr.mk b3 0 none).add 0), .slice, v16⟩] <|
    C.sem (Builtin.append_ #[ty_sl_impl_Blob, ty_sl_impl_Blob] ty_sl_impl_Blob #[(.slice v16.a v16.n v16.c), (.slice y25.a y25.n y25.c)]) .slice fun y26 =>
    C.chk [⟨5, 1, (x0.add 0), .slice, v20⟩] <|
    C.st 1 ((Addr.mk b3 0 none).add 0) (.slice y26.a y26.n y26.c) <|
    ct4 [(.int .i64 (IntKind.wrap .i64 (s4 + 1)))]
  ) (
    C.ld .agg 1 (Addr.mk b3 0 none) fun v28 =>
    C.st 1 (Addr.mk b2 0 none) (.agg v28) <|
    C.ld .agg 1 (Addr.mk b2 0 none) fun z14 =>
    C.ret (.agg z14)
  )
theorem ptr_spec_l05Store_store_eq (C : Comb) (x0 : Addr) : fT C Tryz.prog { loop := [(3, [(4, (.int .i64))])], join := [], anyOrder := [5], pure := [] } n_ptr_spec_l05Store_store [(.pointer (some x0))] = ptr_spec_l05Store_store C x0 := by kernel_rfl
theorem ptr_spec_l05Store_store_calls {R : Value → World → Prop} {w : World} (x0 : Addr) (h : (ptr_spec_l05Store_store (real Tryz.prog R) x0 : World → Prop) w) :
    Calls Tryz.prog n_ptr_spec_l05Store_store [(.pointer (some x0))].toArray w fun e w' => ∃ v, e = .returned v ∧ R v w' := fT_sound mixed { loop := [(3, [(4, (.int .i64))])], join := [], anyOrder := [5], pure := [] } (by rw [ptr_spec_l05Store_store_eq]; exact h)

/-- (*impl.shop).get (65) -/
def ptr_impl_shop_get (C : Comb) (x0 : Addr) (x1 : Array Value) : C.St :=
  C.new ty_impl_Key (.agg x1) fun b3 =>
  C.new ty_impl_Blob (.agg (#[(.int .u8 0), (.slice none 0 0)])) fun b4 =>
  C.ld .agg 32 (Addr.mk b3 0 none) fun v10 =>
  C.call n_ptr_impl_shop_find [(.pointer (some x0)), (.agg v10)] [(.int .i64), .bool] fun r11 =>
  cond (!r11.2) (
    C.pur (Instr.build ty_impl_Blob #[]) .agg fun y16 =>
    C.st 2 (Addr.mk b4 0 none) (.agg y16) <|
    C.ld .agg 2 (Addr.mk b4 0 none) fun z6 =>
    C.ret (.tuple #[(.agg z6), (.bool false)])
  ) (
    C.ld .slice 1 (x0.add 1) fun v20 =>
    C.ix v20.a v20.n 2 r11.1 fun p22 =>
    C.ld .agg 2 p22 fun v23 =>
    C.st 2 (Addr.mk b4 0 none) (.agg v23) <|
    C.ld .agg 2 (Addr.mk b4 0 none) fun z10 =>
    C.ret (.tuple #[(.agg z10), (.bool true)])
  )
theorem ptr_impl_shop_get_eq (C : Comb) (x0 : Addr) (x1 : Array Value) : fT C Tryz.prog { loop := [], join := [], anyOrder := [], pure := [] } n_ptr_impl_shop_get [(.pointer (some x0)), (.agg x1)] = ptr_impl_shop_get C x0 x1 := by kernel_rfl
theorem ptr_impl_shop_get_calls {R : Value → World → Prop} {w : World} (x0 : Addr) (x1 : Array Value) (h : (ptr_impl_shop_get (real Tryz.prog R) x0 x1 : World → Prop) w) :
    Calls Tryz.prog n_ptr_impl_shop_get [(.pointer (some x0)), (.agg x1)].toArray w fun e w' => ∃ v, e = .returned v ∧ R v w' := fT_sound mixed { loop := [], join := [], anyOrder := [], pure := [] } (by rw [ptr_impl_shop_get_eq]; exact h)

/-- impl.SameBlob (66) -/
def impl_SameBlob (C : Comb) (x0 : Array Value) (x1 : Array Value) : C.St :=
  C.new ty_impl_Blob (.agg x0) fun b2 =>
  C.new ty_impl_Blob (.agg x1) fun b3 =>
  C.ld (.int .u8) 1 ((Addr.mk b2 0 none).add 0) fun v6 =>
  C.ld (.int .u8) 1 ((Addr.mk b3 0 none).add 0) fun v8 =>
  cond (v6 == v8) (
    C.ld .slice 1 ((Addr.mk b2 0 none).add 1) fun v12 =>
    C.ld .slice 1 ((Addr.mk b3 0 none).add 1) fun v14 =>
    C.call n_bytes_Equal [(.slice v12.a v12.n v12.c), (.slice v14.a v14.n v14.c)] [.bool] fun r15 =>
    C.ret (.bool r15)
  ) (
    C.ret (.bool false)
  )
theorem impl_SameBlob_eq (C : Comb) (x0 : Array Value) (x1 : Array Value) : fT C Tryz.prog { loop := [], join := [], anyOrder := [], pure := [] } n_impl_SameBlob [(.agg x0), (.agg x1)] = impl_SameBlob C x0 x1 := by kernel_rfl
theorem impl_SameBlob_calls {R : Value → World → Prop} {w : World} (x0 : Array Value) (x1 : Array Value) (h : (impl_SameBlob (real Tryz.prog R) x0 x1 : World → Prop) w) :
    Calls Tryz.prog n_impl_SameBlob [(.agg x0), (.agg x1)].toArray w fun e w' => ∃ v, e = .returned v ∧ R v w' := fT_sound mixed { loop := [], join := [], anyOrder := [], pure := [] } (by rw [impl_SameBlob_eq]; exact h)

/-- (*spec.l05Store).find (67) -/
def ptr_spec_l05Store_find (C : Comb) (x0 : Addr) (x1 : Array Value) : C.St :=
  C.new ty_impl_Key (.agg x1) fun b3 =>
  C.loop (TL [(.int .i64)]) (embL [(.int .i64)]) [(.int .i64 0)] fun s2 ct2 => C.any fun _ =>
  C.ld .slice 1 (x0.add 1) fun v10 =>
  cond (decide (s2 < (v10.n : Int))) (
    C.draw <|
    C.ld .slice 1 (x0.add 1) fun v18 =>
    C.ix v18.a v18.n 32 s2 fun p20 =>
    C.ld .agg 32 p20 fun v21 =>
    C.ld .agg 32 (Addr.mk b3 0 none) fun v22 =>
    C.pur (eqB .eql ty_impl_Key (.tmp 21) (.tmp 22) (.agg v21) (.agg v22)) .bool fun y23 =>
    cond y23 (
      C.ret (.int .i64 s2)
    ) (
      ct2 [(.int .i64 (IntKind.wrap .i64 (s2 + 1)))]
    )
  ) (
    C.ret (.int .i64 (-1))
  )
theorem ptr_spec_l05Store_find_eq (C : Comb) (x0 : Addr) (x1 : Array Value) : fT C Tryz.prog { loop := [(2, [(5, (.int .i64))])], join := [], anyOrder := [], pure := [] } n_ptr_spec_l05Store_find [(.pointer (some x0)), (.agg x1)] = ptr_spec_l05Store_find C x0 x1 := by kernel_rfl
theorem ptr_spec_l05Store_find_calls {R : Value → World → Prop} {w : World} (x0 : Addr) (x1 : Array Value) (h : (ptr_spec_l05Store_find (real Tryz.prog R) x0 x1 : World → Prop) w) :
    Calls Tryz.prog n_ptr_spec_l05Store_find [(.pointer (some x0)), (.agg x1)].toArray w fun e w' => ∃ v, e = .returned v ∧ R v w' := fT_sound mixed { loop := [(2, [(5, (.int .i64))])], join := [], anyOrder := [], pure := [] } (by rw [ptr_spec_l05Store_find_eq]; exact h)

/-- spec.l05Links (68) -/
def spec_l05Links (C : Comb) (x0 : Addr) : C.St :=
  C.ld .slice 1 (x0.add 1) fun v10 =>
  C.ld (.int .u8) 1 (x0.add 0) fun v15 =>
  cond (v15 == 2) (
    cond ((v10.n : Int) == 64) (
      C.ld .slice 1 (x0.add 1) fun v23 =>
      C.call n_spec_l05Keys [(.slice v23.a v23.n v23.c), (.int .i64 0), (.int .i64 2)] [.slice] fun r24 =>
      C.ret (.slice r24.a r24.n r24.c)
    ) (
      C.sem (Instr.buildSlice ty_sl_impl_Key 0 #[]) .slice fun y102 =>
      C.ret (.slice y102.a y102.n y102.c)
    )
  ) (
    cond (v15 == 5) (
      C.sem (Instr.buildSlice ty_sl_impl_Key 0 #[]) .slice fun y27 =>
      C.ld .slice 1 (x0.add 1) fun v32 =>
      C.call n_spec_l04Read [(.slice v32.a v32.n v32.c)] [.agg, .bool] fun r33 =>
      C.new ty_impl_MapNode (.agg (#[(.int .u8 0), (.int .u8 0), (.int .u8 0), (.int .u8 0), (.int .u8 0), (.int .u8 0), (.int .u8 0), (.int .u8 0), (.int .u8 0), (.int .u8 0), (.int .u8 0), (.int .u8 0), (.int .u8 0), (.int .u8 0), (.int .u8 0), (.int .u8 0), (.int .u8 0), (.int .u8 0), (.int .u8 0), (.int .u8 0), (.int .u8 0), (.int .u8 0), (.int .u8 0), (.int .u8 0), (.int .u8 0), (.int .u8 0), (.int .u8 0), (.int .u8 0), (.int .u8 0), (.int .u8 0), (.int .u8 0), (.int .u8 0), (.int .u8 0), (.int .u8 0), (.int .u8 0), (.int .u8 0), (.int .u8 0), (.int .u8 0), (.int .u8 0), (.int .u8 0), (.int .u8 0), (.int .u8 0), (.int .u8 0), (.int .u8 0), (.int .u8 0), (.int .u8 0), (.int .u8 0), (.int .u8 0), (.int .u8 0), (.int .u8 0), (.int .u8 0), (.int .u8 0), (.int .u8 0), (.int .u8 0), (.int .u8 0), (.int .u8 0), (.int .u8 0), (.int .u8 0), (.int .u8 0), (.int .u8 0), (.int .u8 0), (.int .u8 0), (.int .u8 0), (.int .u8 0), (.string (⟨#[]⟩ : ByteArray)), (.string (⟨#[]⟩ : ByteArray))])) fun b5 =>
      C.st 66 (Addr.mk b5 0 none) (.agg r33.1) <|
      C.join (TL [.slice]) (embL [.slice]) (fun s22 => C.any fun _ =>
          C.draw <|
          cond r33.2 (
            C.all [
              (C.ld .agg 32 ((Addr.mk b5 0 none).add 32) fun v51 =>
               C.call n_spec_l04Empty [] [.agg] fun r52 =>
               C.pur (eqB .neq ty_impl_Key (.tmp 51) (.tmp 52) (.agg v51) (.agg r52)) .bool fun y53 =>
               cond y53 (
                 C.ld .agg 32 ((Addr.mk b5 0 none).add 32) fun v57 =>
                 C.sem (Instr.buildSlice ty_sl_impl_Key 1 #[(0, (.agg v57))]) .slice fun y58 =>
                 C.sem (Builtin.append_ #[ty_sl_impl_Key, ty_sl_impl_Key] ty_sl_impl_Key #[(.slice s22.a s22.n s22.c), (.slice y58.a y58.n y58.c)]) .slice fun y59 =>
                 C.ret (.slice y59.a y59.n y59.c)
               ) (
                 C.ret (.slice s22.a s22.n s22.c)
               )),
              (C.call n_spec_l04Empty [] [.agg] fun r52 =>
               C.ld .agg 32 ((Addr.mk b5 0 none).add 32) fun v51 =>
               C.pur (eqB .neq ty_impl_Key (.tmp 51) (.tmp 52) (.agg v51) (.agg r52)) .bool fun y53 =>
               cond y53 (
                 C.ld .agg 32 ((Addr.mk b5 0 none).add 32) fun v57 =>
                 C.sem (Instr.buildSlice ty_sl_impl_Key 1 #[(0, (.agg v57))]) .slice fun y58 =>
                 C.sem (Builtin.append_ #[ty_sl_impl_Key, ty_sl_impl_Key] ty_sl_impl_Key #[(.slice s22.a s22.n s22.c), (.slice y58.a y58.n y58.c)]) .slice fun y59 =>
                 C.ret (.slice y59.a y59.n y59.c)
               ) (
                 C.ret (.slice s22.a s22.n s22.c)
               ))]
          ) (
            C.all [
              (C.ret (.slice s22.a s22.n s22.c)),
              (C.ret (.slice s22.a s22.n s22.c))]
          )
        ) fun jt =>
      C.draw <|
      cond r33.2 (
        C.all [
          (C.ld .agg 32 ((Addr.mk b5 0 none).add 0) fun v39 =>
           C.call n_spec_l04Empty [] [.agg] fun r40 =>
           C.pur (eqB .neq ty_impl_Key (.tmp 39) (.tmp 40) (.agg v39) (.agg r40)) .bool fun y41 =>
           cond y41 (
             C.ld .agg 32 ((Addr.mk b5 0 none).add 0) fun v45 =>
             C.sem (Instr.buildSlice ty_sl_impl_Key 1 #[(0, (.agg v45))]) .slice fun y46 =>
             C.sem (Builtin.append_ #[ty_sl_impl_Key, ty_sl_impl_Key] ty_sl_impl_Key #[(.slice y27.a y27.n y27.c), (.slice y46.a y46.n y46.c)]) .slice fun y47 =>
             jt [(.slice y47.a y47.n y47.c)]
           ) (
             jt [(.slice y27.a y27.n y27.c)]
           )),
          (C.call n_spec_l04Empty [] [.agg] fun r40 =>
           C.ld .agg 32 ((Addr.mk b5 0 none).add 0) fun v39 =>
           C.pur (eqB .neq ty_impl_Key (.tmp 39) (.tmp 40) (.agg v39) (.agg r40)) .bool fun y41 =>
           cond y41 (
             C.ld .agg 32 ((Addr.mk b5 0 none).add 0) fun v45 =>
             C.sem (Instr.buildSlice ty_sl_impl_Key 1 #[(0, (.agg v45))]) .slice fun y46 =>
             C.sem (Builtin.append_ #[ty_sl_impl_Key, ty_sl_impl_Key] ty_sl_impl_Key #[(.slice y27.a y27.n y27.c), (.slice y46.a y46.n y46.c)]) .slice fun y47 =>
             jt [(.slice y47.a y47.n y47.c)]
           ) (
             jt [(.slice y27.a y27.n y27.c)]
           ))]
      ) (
        C.all [
          (jt [(.slice y27.a y27.n y27.c)]),
          (jt [(.slice y27.a y27.n y27.c)])]
      )
    ) (
      cond (v15 == 6) (
        cond ((Int.tmod (v10.n : Int) 32) == 0) (
          C.ld .slice 1 (x0.add 1) fun v69 =>
          C.call n_spec_l05Keys [(.slice v69.a v69.n v69.c), (.int .i64 0), (.int .i64 (IntKind.wrap .i64 (Int.tdiv (v10.n : Int) 32)))] [.slice] fun r72 =>
          C.ret (.slice r72.a r72.n r72.c)
        ) (
          C.sem (Instr.buildSlice ty_sl_impl_Key 0 #[]) .slice fun y102 =>
          C.ret (.slice y102.a y102.n y102.c)
        )
      ) (
        cond (v15 == 7) (
          C.join (TL [.bool]) (embL [.bool]) (fun s41 => C.any fun _ =>
              cond s41 (
                C.draw <|
                C.ld .slice 1 (x0.add 1) fun v93 =>
                C.ld .slice 1 (x0.add 1) fun v97 =>
                C.ix v97.a v97.n 1 0 fun p98 =>
                C.ld (.int .u8) 1 p98 fun v99 =>
                C.call n_spec_l05Keys [(.slice v93.a v93.n v93.c), (.int .i64 1), (.int .i64 (IntKind.wrap .i64 (v99)))] [.slice] fun r101 =>
                C.chk [⟨9, 1, p98, (.int .u8), v99⟩, ⟨7, 1, (x0.add 1), .slice, v97⟩] <|
                C.ret (.slice r101.a r101.n r101.c)
              ) (
                C.sem (Instr.buildSlice ty_sl_impl_Key 0 #[]) .slice fun y102 =>
                C.ret (.slice y102.a y102.n y102.c)
              )
            ) fun jt =>
          cond (decide ((v10.n : Int) > 0)) (
            C.ld .slice 1 (x0.add 1) fun v82 =>
            C.ix v82.a v82.n 1 0 fun p83 =>
            C.ld (.int .u8) 1 p83 fun v84 =>
            jt [(.bool (decide ((v10.n : Int) ≥ (IntKind.wrap .i64 (1 + (IntKind.wrap .i64 (32 * (IntKind.wrap .i64 (v84)))))))))]
          ) (
            jt [(.bool false)]
          )
        ) (
          C.sem (Instr.buildSlice ty_sl_impl_Key 0 #[]) .slice fun y102 =>
          C.ret (.slice y102.a y102.n y102.c)
        )
      )
    )
  )
theorem spec_l05Links_eq (C : Comb) (x0 : Addr) : fT C Tryz.prog { loop := [], join := [(126, [(4, .slice)]), (55, [(89, .bool)])], anyOrder := [9, 11, 19], pure := [] } n_spec_l05Links [(.pointer (some x0))] = spec_l05Links C x0 := by kernel_rfl
theorem spec_l05Links_calls {R : Value → World → Prop} {w : World} (x0 : Addr) (h : (spec_l05Links (real Tryz.prog R) x0 : World → Prop) w) :
    Calls Tryz.prog n_spec_l05Links [(.pointer (some x0))].toArray w fun e w' => ∃ v, e = .returned v ∧ R v w' := fT_sound mixed { loop := [], join := [(126, [(4, .slice)]), (55, [(89, .bool)])], anyOrder := [9, 11, 19], pure := [] } (by rw [spec_l05Links_eq]; exact h)

/-- spec.l01Has (69) -/
def spec_l01Has (C : Comb) (x0 : Sl) (x1 : Array Value) : C.St :=
  C.new ty_impl_Key (.agg x1) fun b3 =>
  C.loop (TL [(.int .i64)]) (embL [(.int .i64)]) [(.int .i64 0)] fun s2 ct2 => C.any fun _ =>
  cond (decide (s2 < (x0.n : Int))) (
    C.draw <|
    C.ix x0.a x0.n 32 s2 fun p14 =>
    C.ld .agg 32 p14 fun v15 =>
    C.ld .agg 32 (Addr.mk b3 0 none) fun v16 =>
    C.pur (eqB .eql ty_impl_Key (.tmp 15) (.tmp 16) (.agg v15) (.agg v16)) .bool fun y17 =>
    cond y17 (
      C.ret (.bool true)
    ) (
      ct2 [(.int .i64 (IntKind.wrap .i64 (s2 + 1)))]
    )
  ) (
    C.ret (.bool false)
  )
theorem spec_l01Has_eq (C : Comb) (x0 : Sl) (x1 : Array Value) : fT C Tryz.prog { loop := [(2, [(5, (.int .i64))])], join := [], anyOrder := [], pure := [] } n_spec_l01Has [(.slice x0.a x0.n x0.c), (.agg x1)] = spec_l01Has C x0 x1 := by kernel_rfl
theorem spec_l01Has_calls {R : Value → World → Prop} {w : World} (x0 : Sl) (x1 : Array Value) (h : (spec_l01Has (real Tryz.prog R) x0 x1 : World → Prop) w) :
    Calls Tryz.prog n_spec_l01Has [(.slice x0.a x0.n x0.c), (.agg x1)].toArray w fun e w' => ∃ v, e = .returned v ∧ R v w' := fT_sound mixed { loop := [(2, [(5, (.int .i64))])], join := [], anyOrder := [], pure := [] } (by rw [spec_l01Has_eq]; exact h)

end Go.Proofs.YtcebkinkbelcnaaGreat
