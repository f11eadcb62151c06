/- Printed by a program of this claim's author: each Go function as a Lean function over abstract combinators, and the equation that says that T makes it of the loaded code. -/
import Derived.Test.YtghoeeiiaadngaaGreatSx2
import Derived.Test.YtghoeeiiaadngaaGreatProg
namespace Go.Proofs.YtghoeeiiaadngaaGreat
open Go.Sx
theorem mixed : Tryz.prog.follows .mixedOrders = true := by kernel_rfl

abbrev n_laws_FnExactLinkPath : Nat := 3
abbrev n_laws_FnExactReachableFrom : Nat := 4
abbrev n_laws_FnExactMissingFrom : Nat := 5
abbrev n_laws_FnExactDeadIn : Nat := 6
abbrev n_laws_FnCollected : Nat := 7
abbrev n_laws_FnExactCollect : Nat := 8
abbrev n_laws_FnLinks : Nat := 9
abbrev n_laws_szStore : Nat := 10
abbrev n_spec_LinkPath : Nat := 11
abbrev n_laws_toStore : Nat := 12
abbrev n_laws_toKey : Nat := 13
abbrev n_impl_LinkPath : Nat := 14
abbrev n_laws_eqKeyS : Nat := 15
abbrev n_laws_eqStore : Nat := 16
abbrev n_laws_markStore : Nat := 17
abbrev n_laws_markKeyS : Nat := 18
abbrev n_laws_heldKeyS : Nat := 19
abbrev n_laws_szKeyS : Nat := 20
abbrev n_spec_ReachableFrom : Nat := 21
abbrev n_laws_toKeyS : Nat := 22
abbrev n_impl_ReachableFrom : Nat := 23
abbrev n_spec_MissingFrom : Nat := 24
abbrev n_impl_MissingFrom : Nat := 25
abbrev n_laws_szLeaseS : Nat := 26
abbrev n_spec_DeadIn : Nat := 27
abbrev n_laws_toLeaseS : Nat := 28
abbrev n_impl_DeadIn : Nat := 29
abbrev n_laws_eqLeaseS : Nat := 30
abbrev n_laws_markLeaseS : Nat := 31
abbrev n_laws_f6big : Nat := 32
abbrev n_spec_P6Rooted : Nat := 33
abbrev n_spec_KeysOfStore : Nat := 34
abbrev n_spec_P6Pick : Nat := 35
abbrev n_impl_Collect : Nat := 36
abbrev n_spec_Collect : Nat := 37
abbrev n_spec_SameStore : Nat := 38
abbrev n_spec_EqualKeys : Nat := 39
abbrev n_impl_KeysOfStore : Nat := 40
abbrev n_laws_heldStore : Nat := 41
abbrev n_spec_P6Store : Nat := 42
abbrev n_impl_LinkCounts : Nat := 43
abbrev n_spec_LinkCounts : Nat := 44
abbrev n_impl_RootsOf : Nat := 45
abbrev n_spec_HasKey : Nat := 46
abbrev n_spec_GetBlob : Nat := 47
abbrev n_impl_LinksOf : Nat := 48
abbrev n_laws_szBlobS : Nat := 49
abbrev n_spec_l05Open : Nat := 50
abbrev n_ptr_spec_l05Store_find : Nat := 51
abbrev n_spec_l05Links : Nat := 52
abbrev n_spec_l01Has : Nat := 53
abbrev n_laws_toBlobS : Nat := 54
abbrev n_impl_newShop : Nat := 55
abbrev n_ptr_impl_shop_has : Nat := 56
abbrev n_ptr_impl_shop_get : Nat := 57
abbrev n_impl_Blob_links : Nat := 58
abbrev n_slices_Reverse_sl_impl_Key_impl_Key : Nat := 59
abbrev n_laws_eqKey : Nat := 60
abbrev n_laws_eqBlobS : Nat := 61
abbrev n_laws_markBlobS : Nat := 62
abbrev n_spec_l05Asked : Nat := 63
abbrev n_ptr_spec_l05Store_reach : Nat := 64
abbrev n_ptr_spec_l05Store_keep : Nat := 65
abbrev n_impl_reachCode : Nat := 66
abbrev n_ptr_impl_shop_reached : Nat := 67
abbrev n_spec_l05Ascending : Nat := 68
abbrev n_spec_l05Needed : Nat := 69
abbrev n_laws_toLease : Nat := 70
abbrev n_impl_alive : Nat := 71
abbrev n_slices_DeleteFunc_sl_impl_Key_impl_Key : Nat := 72
abbrev n_impl_DeadIn_1 : Nat := 73
abbrev n_laws_eqLease : Nat := 74
abbrev n_spec_l00From : Nat := 75
abbrev n_spec_l05Drawn : Nat := 76
abbrev n_ptr_spec_l00Src_one : Nat := 77
abbrev n_spec_l01Any : Nat := 78
abbrev n_ptr_spec_l00Src_pick : Nat := 79
abbrev n_ptr_impl_shop_kept : Nat := 80
abbrev n_impl_Collect_1 : Nat := 81
abbrev n_ptr_spec_l05Store_store : Nat := 82
abbrev n_spec_l05SameBlob : Nat := 83
abbrev n_laws_heldBlobS : Nat := 84
abbrev n_ptr_impl_shop_counts : Nat := 85
abbrev n_ptr_spec_l05Store_counts : Nat := 86
abbrev n_spec_l05Copy : Nat := 87
abbrev n_impl_ValidBlob : Nat := 88
abbrev n_laws_szBlob : Nat := 89
abbrev n_spec_l05Blob : Nat := 90
abbrev n_spec_l05Key : Nat := 91
abbrev n_spec_l01Compare : Nat := 92
abbrev n_spec_l05Keys : Nat := 93
abbrev n_spec_l04Read : Nat := 94
abbrev n_spec_l04Empty : Nat := 95
abbrev n_laws_toBlob : Nat := 96
abbrev n_impl_ValidStore : Nat := 97
abbrev n_impl_Store_keys : Nat := 98
abbrev n_slices_Clone_sl_impl_Blob_impl_Blob : Nat := 99
abbrev n_ptr_impl_shop_find : Nat := 100
abbrev n_impl_keysIn : Nat := 101
abbrev n_impl_ReadMapNode : Nat := 102
abbrev n_impl_EmptyMapKey : Nat := 103
abbrev n_impl_Blob_links_1 : Nat := 104
abbrev n_laws_eqBlob : Nat := 105
abbrev n_laws_markByteS : Nat := 106
abbrev n_slices_ContainsFunc_sl_sl_impl_Key_sl_impl_Key : Nat := 107
abbrev n_impl_reachCode_1 : Nat := 108
abbrev n_impl_sorted : Nat := 109
abbrev n_ptr_impl_shop_reach : Nat := 110
abbrev n_ptr_impl_shop_reached_1 : Nat := 111
abbrev n_spec_l01Sort : Nat := 112
abbrev n_spec_l05Lease : Nat := 113
abbrev n_spec_l00In : Nat := 114
abbrev n_impl_alive_1 : Nat := 115
abbrev n_impl_within : Nat := 116
abbrev n_slices_ContainsFunc_sl_impl_Lease_impl_Lease : Nat := 117
abbrev n_impl_alive_2 : Nat := 118
abbrev n_slices_Clone_sl_impl_Key_impl_Key : Nat := 119
abbrev n_slices_IndexFunc_sl_impl_Key_impl_Key : Nat := 120
abbrev n_spec_StoreMap : Nat := 121
abbrev n_spec_l04Drawn : Nat := 122
abbrev n_spec_StoreList : Nat := 123
abbrev n_spec_l05DrawChunks : Nat := 124
abbrev n_spec_PutFolder : Nat := 125
abbrev n_spec_PutBlob : Nat := 126
abbrev n_ptr_spec_l00Src_text : Nat := 127
abbrev n_spec_DropBlob : Nat := 128
abbrev n_spec_l01Hash : Nat := 129
abbrev n_spec_l01Data : Nat := 130
abbrev n_ptr_spec_l00Src_next : Nat := 131
abbrev n_ptr_impl_shop_store : Nat := 132
abbrev n_spec_l01Bytes : Nat := 133
abbrev n_laws_heldByteS : Nat := 134
abbrev n_laws_szByteS : Nat := 135
abbrev n_spec_l04Entry : Nat := 136
abbrev n_laws_toByteS : Nat := 137
abbrev n_slices_ContainsFunc_sl_impl_Blob_impl_Blob : Nat := 138
abbrev n_impl_ValidStore_1 : Nat := 139
abbrev n_slices_IsSortedFunc_sl_impl_Key_impl_Key : Nat := 140
abbrev n_impl_compareKeys : Nat := 141
abbrev n_impl_Blob_key : Nat := 142
abbrev n_slices_BinarySearchFunc_sl_impl_Key_impl_Key_impl_Key : Nat := 143
abbrev n_impl_ValidEntry : Nat := 144
abbrev n_impl_hash : Nat := 145
abbrev n_laws_eqByteS : Nat := 146
abbrev n_slices_IndexFunc_sl_sl_impl_Key_sl_impl_Key : Nat := 147
abbrev n_slices_SortFunc_sl_impl_Key_impl_Key : Nat := 148
abbrev n_slices_Compact_sl_impl_Key_impl_Key : Nat := 149
abbrev n_ptr_impl_shop_reach_1 : Nat := 150
abbrev n_spec_l01Xor : Nat := 151
abbrev n_slices_IndexFunc_sl_impl_Lease_impl_Lease : Nat := 152
abbrev n_spec_l04Ok : Nat := 153
abbrev n_spec_l04Nodes : Nat := 154
abbrev n_ptr_spec_l05Store_put : Nat := 155
abbrev n_spec_l04Bytes : Nat := 156
abbrev n_spec_l05Made : Nat := 157
abbrev n_spec_l04Put : Nat := 158
abbrev n_spec_l04DrawEntry : Nat := 159
abbrev n_ptr_spec_l05Store_list : Nat := 160
abbrev n_spec_l01End : Nat := 161
abbrev n_spec_l01Start : Nat := 162
abbrev n_impl_Blob_copied : Nat := 163
abbrev n_spec_l04Name : Nat := 164
abbrev n_slices_IndexFunc_sl_impl_Blob_impl_Blob : Nat := 165
abbrev n_slices_Compare_sl_byte_byte : Nat := 166
abbrev n_impl_isName : Nat := 167
abbrev n_impl_blocks : Nat := 168
abbrev n_slices_Concat_sl_byte_byte : Nat := 169
abbrev n_impl_padding : Nat := 170
abbrev n_impl_size_byte : Nat := 171
abbrev n_impl_keyOf : Nat := 172
abbrev n_impl_mixed : Nat := 173
abbrev n_impl_StartState : Nat := 174
abbrev n_slices_pdqsortCmpFunc_impl_Key : Nat := 175
abbrev n_math_bits_Len : Nat := 176
abbrev n_spec_l04Top : Nat := 177
abbrev n_spec_l04NodeKey : Nat := 178
abbrev n_spec_l04Names : Nat := 179
abbrev n_spec_l03Half : Nat := 180
abbrev n_spec_l01Padded : Nat := 181
abbrev n_spec_l01Mix : Nat := 182
abbrev n_spec_l01Block : Nat := 183
abbrev n_slices_Clone_sl_byte_byte : Nat := 184
abbrev n_cmp_Compare_byte : Nat := 185
abbrev n_slices_Grow_sl_byte_byte : Nat := 186
abbrev n_impl_appendLittle : Nat := 187
abbrev n_impl_MixBlock : Nat := 188
abbrev n_slices_insertionSortCmpFunc_impl_Key : Nat := 189
abbrev n_slices_heapSortCmpFunc_impl_Key : Nat := 190
abbrev n_slices_breakPatternsCmpFunc_impl_Key : Nat := 191
abbrev n_slices_choosePivotCmpFunc_impl_Key : Nat := 192
abbrev n_slices_reverseRangeCmpFunc_impl_Key : Nat := 193
abbrev n_slices_partialInsertionSortCmpFunc_impl_Key : Nat := 194
abbrev n_slices_partitionEqualCmpFunc_impl_Key : Nat := 195
abbrev n_slices_partitionCmpFunc_impl_Key : Nat := 196
abbrev n_math_bits_Len32 : Nat := 197
abbrev n_math_bits_Len64 : Nat := 198
abbrev n_spec_l04Priority : Nat := 199
abbrev n_spec_l01Turn : Nat := 200
abbrev n_cmp_isNaN_byte : Nat := 201
abbrev n_impl_littleNumber : Nat := 202
abbrev n_math_bits_RotateLeft32 : Nat := 203
abbrev n_slices_siftDownCmpFunc_impl_Key : Nat := 204
abbrev n_slices_nextPowerOfTwo : Nat := 205
abbrev n_ptr_slices_xorshift_Next : Nat := 206
abbrev n_slices_medianAdjacentCmpFunc_impl_Key : Nat := 207
abbrev n_slices_medianCmpFunc_impl_Key : Nat := 208
abbrev n_slices_order2CmpFunc_impl_Key : Nat := 209
abbrev ty_x : Nat := 0
abbrev ty_func : Nat := 1
abbrev ty_int64 : Nat := 2
abbrev ty_int : Nat := 3
abbrev ty_bool : Nat := 4
abbrev ty_uint8 : Nat := 5
abbrev ty_internal_abi_BoundsErrorCode : Nat := 6
abbrev ty_struct_x_int64_y_int_signed_bool_code_abi_BoundsErrorCode : Nat := 7
abbrev ty_runtime_boundsError : Nat := 8
abbrev ty_string : Nat := 9
abbrev ty_runtime_errorString : Nat := 10
abbrev ty_runtime_plainError : Nat := 11
abbrev ty_uintptr : Nat := 12
abbrev ty_struct_msg_string_addr_uintptr : Nat := 13
abbrev ty_runtime_errorAddressString : Nat := 14
abbrev ty_ptr_runtime_TypeAssertionError : Nat := 15
abbrev ty_ptr_runtime_PanicNilError : Nat := 16
abbrev ty_ptr_abi_Type : Nat := 17
abbrev ty_struct_typ_ptr_abi_Type : Nat := 18
abbrev ty_internal_runtime_maps_unhashableTypeError : Nat := 19
abbrev ty_interface : Nat := 20
abbrev ty_int32 : Nat := 21
abbrev ty_sl_laws_Blob : Nat := 22
abbrev ty_struct_Blobs_sl_laws_Blob : Nat := 23
abbrev ty_laws_Store : Nat := 24
abbrev ty_arr32_uint8 : Nat := 25
abbrev ty_func_laws_Store_int_int : Nat := 26
abbrev ty_sl_impl_Key : Nat := 27
abbrev ty_sl_impl_Key_int64 : Nat := 28
abbrev ty_func_impl_Store_impl_Key_impl_Key_sl_impl_Key_int64 : Nat := 29
abbrev ty_sl_impl_Blob : Nat := 30
abbrev ty_struct_Blobs_sl_impl_Blob : Nat := 31
abbrev ty_impl_Store : Nat := 32
abbrev ty_func_laws_Store_impl_Store : Nat := 33
abbrev ty_impl_Key : Nat := 34
abbrev ty_func_arr32_uint8_impl_Key : Nat := 35
abbrev ty_func_sl_impl_Key_sl_impl_Key_bool : Nat := 36
abbrev ty_func_impl_Store_impl_Store_bool : Nat := 37
abbrev ty_func_impl_Store_int_int : Nat := 38
abbrev ty_func_sl_impl_Key_int_int : Nat := 39
abbrev ty_func_laws_Store_arr32_uint8_arr32_uint8_bool : Nat := 40
abbrev ty_sl_arr32_uint8 : Nat := 41
abbrev ty_func_sl_arr32_uint8_int_int : Nat := 42
abbrev ty_func_impl_Store_sl_impl_Key_sl_impl_Key_int64 : Nat := 43
abbrev ty_func_sl_arr32_uint8_sl_impl_Key : Nat := 44
abbrev ty_func_laws_Store_sl_arr32_uint8_bool : Nat := 45
abbrev ty_sl_laws_Lease : Nat := 46
abbrev ty_func_sl_laws_Lease_int_int : Nat := 47
abbrev ty_func_impl_Store_sl_impl_Key_sl_impl_Lease_int64_sl_impl_Key_int64 : Nat := 48
abbrev ty_sl_impl_Lease : Nat := 49
abbrev ty_func_sl_laws_Lease_sl_impl_Lease : Nat := 50
abbrev ty_func_sl_impl_Lease_sl_impl_Lease_bool : Nat := 51
abbrev ty_func_sl_impl_Lease_int_int : Nat := 52
abbrev ty_func_laws_Store_sl_arr32_uint8_sl_laws_Lease_int64_bool : Nat := 53
abbrev ty_sl_uint8 : Nat := 54
abbrev ty_func_sl_uint8_bool : Nat := 55
abbrev ty_impl_Store_sl_impl_Key : Nat := 56
abbrev ty_func_sl_uint8_impl_Store_sl_impl_Key : Nat := 57
abbrev ty_func_impl_Store_sl_impl_Key_int64 : Nat := 58
abbrev ty_func_sl_uint8_int64_int64 : Nat := 59
abbrev ty_struct_Key_impl_Key_Until_int64 : Nat := 60
abbrev ty_impl_Lease : Nat := 61
abbrev ty_impl_Store_int64 : Nat := 62
abbrev ty_func_impl_Store_sl_impl_Key_sl_impl_Lease_int64_impl_Store_int64 : Nat := 63
abbrev ty_func_sl_uint8_sl_uint8_bool : Nat := 64
abbrev ty_func_sl_uint8_impl_Store : Nat := 65
abbrev ty_sl_int64 : Nat := 66
abbrev ty_sl_int64_int64 : Nat := 67
abbrev ty_func_impl_Store_sl_int64_int64 : Nat := 68
abbrev ty_func_sl_impl_Key_impl_Key_bool : Nat := 69
abbrev ty_struct_Tag_uint8_Data_sl_uint8 : Nat := 70
abbrev ty_impl_Blob : Nat := 71
abbrev ty_impl_Blob_int64 : Nat := 72
abbrev ty_func_impl_Store_impl_Key_impl_Blob_int64 : Nat := 73
abbrev ty_func_impl_Blob_sl_impl_Key_int64 : Nat := 74
abbrev ty_func_sl_laws_Blob_int_int : Nat := 75
abbrev ty_ptr_spec_l05Store : Nat := 76
abbrev ty_ptr_spec_l05Store_bool : Nat := 77
abbrev ty_func_ptr_impl_Store_ptr_spec_l05Store_bool : Nat := 78
abbrev ty_ptr_impl_Store : Nat := 79
abbrev ty_func_impl_Key_int : Nat := 80
abbrev ty_sl_int : Nat := 81
abbrev ty_func_ptr_impl_Blob_sl_impl_Key : Nat := 82
abbrev ty_ptr_impl_Blob : Nat := 83
abbrev ty_struct_blobs_sl_impl_Blob_keys_sl_impl_Key : Nat := 84
abbrev ty_spec_l05Store : Nat := 85
abbrev ty_func_sl_laws_Blob_sl_impl_Blob : Nat := 86
abbrev ty_ptr_impl_shop : Nat := 87
abbrev ty_ptr_impl_shop_bool : Nat := 88
abbrev ty_func_impl_Store_ptr_impl_shop_bool : Nat := 89
abbrev ty_func_impl_Key_bool : Nat := 90
abbrev ty_map_impl_Key_impl_Key : Nat := 91
abbrev ty_impl_Blob_bool : Nat := 92
abbrev ty_func_impl_Key_impl_Blob_bool : Nat := 93
abbrev ty_func_sl_impl_Key : Nat := 94
abbrev ty_impl_Key_bool : Nat := 95
abbrev ty_func_sl_impl_Key_96 : Nat := 96
abbrev ty_func_impl_Key_impl_Key_bool : Nat := 97
abbrev ty_func_sl_impl_Blob_sl_impl_Blob_bool : Nat := 98
abbrev ty_func_sl_impl_Blob_int_int : Nat := 99
abbrev ty_ptr_spec_l05Store_int64 : Nat := 100
abbrev ty_func_ptr_impl_Store_sl_impl_Key_ptr_spec_l05Store_int64 : Nat := 101
abbrev ty_sl_bool : Nat := 102
abbrev ty_sl_bool_sl_impl_Key : Nat := 103
abbrev ty_func_sl_impl_Key_sl_bool_sl_impl_Key : Nat := 104
abbrev ty_func_sl_bool_ptr_spec_l05Store : Nat := 105
abbrev ty_ptr_impl_shop_int64 : Nat := 106
abbrev ty_func_impl_Store_sl_impl_Key_ptr_impl_shop_int64 : Nat := 107
abbrev ty_func_sl_impl_Key_bool_sl_impl_Key : Nat := 108
abbrev ty_func_sl_impl_Key_sl_impl_Key : Nat := 109
abbrev ty_ptr_spec_l05Store_sl_bool_int64 : Nat := 110
abbrev ty_func_ptr_impl_Store_sl_impl_Key_sl_impl_Lease_int64_ptr_spec_l05Store_sl_bool_int64 : Nat := 111
abbrev ty_func_laws_Lease_impl_Lease : Nat := 112
abbrev ty_struct_Key_arr32_uint8_Until_int64 : Nat := 113
abbrev ty_laws_Lease : Nat := 114
abbrev ty_map_impl_Key_bool : Nat := 115
abbrev ty_ptr_impl_shop_map_impl_Key_bool_int64 : Nat := 116
abbrev ty_func_impl_Store_sl_impl_Key_sl_impl_Lease_int64_ptr_impl_shop_map_impl_Key_bool_int64 : Nat := 117
abbrev ty_func_sl_impl_Key_func_impl_Key_bool_sl_impl_Key : Nat := 118
abbrev ty_struct_keys_sl_impl_Key_blobs_sl_impl_Blob : Nat := 119
abbrev ty_impl_shop : Nat := 120
abbrev ty_func_impl_Lease_impl_Lease_bool : Nat := 121
abbrev ty_ptr_spec_l00Src : Nat := 122
abbrev ty_func_sl_uint8_ptr_spec_l00Src : Nat := 123
abbrev ty_func_ptr_spec_l00Src_impl_Store_sl_impl_Key : Nat := 124
abbrev ty_func_int64_bool : Nat := 125
abbrev ty_func_ptr_spec_l00Src_impl_Key : Nat := 126
abbrev ty_func_int64_int64 : Nat := 127
abbrev ty_func_func_impl_Key_bool_impl_Store : Nat := 128
abbrev ty_func_impl_Store : Nat := 129
abbrev ty_func_ptr_impl_Blob_ptr_impl_Blob_bool : Nat := 130
abbrev ty_func_sl_int64 : Nat := 131
abbrev ty_func_impl_Blob_impl_Blob : Nat := 132
abbrev ty_func_impl_Blob_bool : Nat := 133
abbrev ty_func_laws_Blob_int_int : Nat := 134
abbrev ty_laws_Blob : Nat := 135
abbrev ty_func_ptr_impl_Blob_bool : Nat := 136
abbrev ty_func_ptr_impl_Blob_impl_Key : Nat := 137
abbrev ty_func_impl_Key_impl_Key_int64 : Nat := 138
abbrev ty_func_sl_uint8_int_int_sl_impl_Key : Nat := 139
abbrev ty_struct_Name_string_Value_string : Nat := 140
abbrev ty_impl_Entry : Nat := 141
abbrev ty_struct_Left_impl_Key_Right_impl_Key_Entry_impl_Entry : Nat := 142
abbrev ty_impl_MapNode : Nat := 143
abbrev ty_impl_MapNode_bool : Nat := 144
abbrev ty_func_sl_uint8_impl_MapNode_bool : Nat := 145
abbrev ty_func_impl_Key : Nat := 146
abbrev ty_func_laws_Blob_impl_Blob : Nat := 147
abbrev ty_func_impl_Store_bool : Nat := 148
abbrev ty_func_sl_impl_Blob_sl_impl_Blob : Nat := 149
abbrev ty_int_bool : Nat := 150
abbrev ty_func_impl_Key_int_bool : Nat := 151
abbrev ty_func_sl_uint8_sl_impl_Key : Nat := 152
abbrev ty_impl_MapNode_int64 : Nat := 153
abbrev ty_func_sl_uint8_impl_MapNode_int64 : Nat := 154
abbrev ty_func_impl_Blob_impl_Blob_bool : Nat := 155
abbrev ty_func_sl_uint8_int_int : Nat := 156
abbrev ty_sl_sl_impl_Key : Nat := 157
abbrev ty_func_sl_sl_impl_Key_func_sl_impl_Key_bool_bool : Nat := 158
abbrev ty_func_sl_impl_Key_bool : Nat := 159
abbrev ty_func_sl_impl_Key_impl_Key_sl_impl_Key : Nat := 160
abbrev ty_func_ptr_impl_Lease_bool : Nat := 161
abbrev ty_ptr_impl_Lease : Nat := 162
abbrev ty_func_int64_int64_int64_bool : Nat := 163
abbrev ty_func_sl_impl_Lease_func_impl_Lease_bool_bool : Nat := 164
abbrev ty_func_impl_Lease_bool : Nat := 165
abbrev ty_func_sl_impl_Key_func_impl_Key_bool_int : Nat := 166
abbrev ty_uint64 : Nat := 167
abbrev ty_struct_code_sl_uint8_at_int_seed_uint64 : Nat := 168
abbrev ty_spec_l00Src : Nat := 169
abbrev ty_impl_Store_impl_Key_int64 : Nat := 170
abbrev ty_func_impl_Store_sl_impl_Entry_impl_Store_impl_Key_int64 : Nat := 171
abbrev ty_sl_impl_Entry : Nat := 172
abbrev ty_func_ptr_spec_l00Src_int64_sl_impl_Entry : Nat := 173
abbrev ty_func_impl_Store_sl_sl_uint8_impl_Store_impl_Key_int64 : Nat := 174
abbrev ty_sl_sl_uint8 : Nat := 175
abbrev ty_func_ptr_spec_l00Src_int64_sl_sl_uint8 : Nat := 176
abbrev ty_func_impl_Store_sl_impl_Key_impl_Store_impl_Key_int64 : Nat := 177
abbrev ty_func_impl_Store_impl_Blob_impl_Store_impl_Key_int64 : Nat := 178
abbrev ty_func_sl_string_string : Nat := 179
abbrev ty_sl_string : Nat := 180
abbrev ty_func_impl_Store_impl_Key_impl_Store_int64 : Nat := 181
abbrev ty_func_uint8_sl_uint8_impl_Key : Nat := 182
abbrev ty_func_ptr_spec_l00Src_int64_sl_uint8 : Nat := 183
abbrev ty_func_int64 : Nat := 184
abbrev ty_func_ptr_impl_Entry_bool : Nat := 185
abbrev ty_ptr_impl_Entry : Nat := 186
abbrev ty_func_sl_uint8_sl_uint8 : Nat := 187
abbrev ty_func_sl_impl_Blob_func_impl_Blob_bool_bool : Nat := 188
abbrev ty_func_sl_impl_Key_func_impl_Key_impl_Key_int_bool : Nat := 189
abbrev ty_func_impl_Key_impl_Key_int : Nat := 190
abbrev ty_func_sl_impl_Key_impl_Key_func_impl_Key_impl_Key_int_int_bool : Nat := 191
abbrev ty_func_impl_Entry_bool : Nat := 192
abbrev ty_func_sl_sl_impl_Key_func_sl_impl_Key_bool_int : Nat := 193
abbrev ty_func_sl_impl_Key_func_impl_Key_impl_Key_int : Nat := 194
abbrev ty_func_impl_Key_195 : Nat := 195
abbrev ty_func_impl_Key_impl_Key_impl_Key : Nat := 196
abbrev ty_func_sl_impl_Lease_func_impl_Lease_bool_int : Nat := 197
abbrev ty_func_sl_impl_Entry_bool : Nat := 198
abbrev ty_sl_impl_MapNode : Nat := 199
abbrev ty_sl_impl_MapNode_impl_Key : Nat := 200
abbrev ty_func_sl_impl_Entry_sl_impl_MapNode_impl_Key : Nat := 201
abbrev ty_impl_Key_int64 : Nat := 202
abbrev ty_func_impl_Blob_impl_Key_int64 : Nat := 203
abbrev ty_func_ptr_impl_MapNode_sl_uint8 : Nat := 204
abbrev ty_ptr_impl_MapNode : Nat := 205
abbrev ty_func_ptr_spec_l05Store_impl_Key_int64_impl_Store_impl_Key_int64 : Nat := 206
abbrev ty_func_sl_impl_Entry_impl_Entry_sl_impl_Entry : Nat := 207
abbrev ty_func_ptr_spec_l00Src_impl_Entry : Nat := 208
abbrev ty_func_sl_impl_Key_impl_Key_int64 : Nat := 209
abbrev ty_func_arr8_uint32_sl_uint8_int64_impl_Key : Nat := 210
abbrev ty_uint32 : Nat := 211
abbrev ty_arr8_uint32 : Nat := 212
abbrev ty_func_uint8_arr8_uint32 : Nat := 213
abbrev ty_uint : Nat := 214
abbrev ty_func_impl_Blob : Nat := 215
abbrev ty_func_string_bool : Nat := 216
abbrev ty_func_sl_impl_Blob_func_impl_Blob_bool_int : Nat := 217
abbrev ty_func_sl_uint8_sl_uint8_int : Nat := 218
abbrev ty_sl_arr32_uint8_sl_uint8 : Nat := 219
abbrev ty_func_sl_uint8_sl_arr32_uint8_sl_uint8 : Nat := 220
abbrev ty_func_sl_uint8_sl_uint8_221 : Nat := 221
abbrev ty_func_int64_sl_uint8 : Nat := 222
abbrev ty_func_sl_uint8_int64 : Nat := 223
abbrev ty_func_arr8_uint32_impl_Key : Nat := 224
abbrev ty_func_arr8_uint32_sl_arr32_uint8_arr8_uint32 : Nat := 225
abbrev ty_func_sl_impl_Key_int_int_int_func_impl_Key_impl_Key_int : Nat := 226
abbrev ty_func_uint_int : Nat := 227
abbrev ty_func_sl_impl_Entry_int : Nat := 228
abbrev ty_func_ptr_impl_MapNode_impl_Key : Nat := 229
abbrev ty_func_sl_string : Nat := 230
abbrev ty_func_sl_uint8_int64_sl_uint8 : Nat := 231
abbrev ty_func_arr8_uint32_arr32_uint8_arr8_uint32 : Nat := 232
abbrev ty_func_sl_uint8_int_arr32_uint8 : Nat := 233
abbrev ty_func_uint8_uint8_int : Nat := 234
abbrev ty_func_sl_uint8_int_sl_uint8 : Nat := 235
abbrev ty_func_sl_uint8_uint64_int_sl_uint8 : Nat := 236
abbrev ty_func_sl_impl_Key_int_int_func_impl_Key_impl_Key_int : Nat := 237
abbrev ty_slices_sortedHint : Nat := 238
abbrev ty_int_slices_sortedHint : Nat := 239
abbrev ty_func_sl_impl_Key_int_int_func_impl_Key_impl_Key_int_int_slices_sortedHint : Nat := 240
abbrev ty_func_sl_impl_Key_int_int_func_impl_Key_impl_Key_int_bool : Nat := 241
abbrev ty_func_sl_impl_Key_int_int_int_func_impl_Key_impl_Key_int_int : Nat := 242
abbrev ty_func_sl_impl_Key_int_int_int_func_impl_Key_impl_Key_int_int_bool : Nat := 243
abbrev ty_func_uint32_int : Nat := 244
abbrev ty_func_uint64_int : Nat := 245
abbrev ty_func_string_impl_Key : Nat := 246
abbrev ty_func_uint32_uint_uint32 : Nat := 247
abbrev ty_func_uint8_bool : Nat := 248
abbrev ty_func_sl_uint8_uint64 : Nat := 249
abbrev ty_func_uint32_int_uint32 : Nat := 250
abbrev ty_slices_xorshift : Nat := 251
abbrev ty_func_int_uint : Nat := 252
abbrev ty_func_uint64 : Nat := 253
abbrev ty_func_sl_impl_Key_int_ptr_int_func_impl_Key_impl_Key_int_int : Nat := 254
abbrev ty_ptr_int : Nat := 255
abbrev ty_func_sl_impl_Key_int_int_int_ptr_int_func_impl_Key_impl_Key_int_int : Nat := 256
abbrev ty_ptr_slices_xorshift : Nat := 257
abbrev ty_int_int : Nat := 258
abbrev ty_func_sl_impl_Key_int_int_ptr_int_func_impl_Key_impl_Key_int_int_int : Nat := 259
abbrev ty_func_string : Nat := 260
abbrev ty_struct_interface_ptr_abi_Type_concrete_ptr_abi_Type_asserted_ptr_abi_Type_missingMethod_string : Nat := 261
abbrev ty_runtime_TypeAssertionError : Nat := 262
abbrev ty_arr0_ptr_runtime_PanicNilError : Nat := 263
abbrev ty_struct_arr0_ptr_runtime_PanicNilError : Nat := 264
abbrev ty_runtime_PanicNilError : Nat := 265
abbrev ty_func_int : Nat := 266
abbrev ty_internal_abi_TFlag : Nat := 267
abbrev ty_internal_abi_Kind : Nat := 268
abbrev ty_func_unsafe_Pointer_unsafe_Pointer_bool : Nat := 269
abbrev ty_ptr_uint8 : Nat := 270
abbrev ty_internal_abi_NameOff : Nat := 271
abbrev ty_internal_abi_TypeOff : Nat := 272
abbrev ty_struct_Size_uintptr_PtrBytes_uintptr_Hash_uint32_TFlag_abi_TFlag_Align_uint8_FieldAlign_uint8_Kind_abi_Kind_Equal_func_unsafe_Pointer_unsafe_Pointer_bool_GCData_ptr_uint8_Str_abi_NameOff_PtrToThis_abi_TypeOff : Nat := 273
abbrev ty_internal_abi_Type : Nat := 274
abbrev ty_func_sl_uint8 : Nat := 275
abbrev ty_unsafe_Pointer : Nat := 276

/-- laws.FnExactLinkPath (3) -/
def laws_FnExactLinkPath (C : Comb) (x0 : Array Value) (x1 : Array Value) (x2 : Array Value) : C.St :=
  C.new ty_laws_Store (.agg x0) fun b3 =>
  C.new ty_arr32_uint8 (.agg x1) fun b4 =>
  C.new ty_arr32_uint8 (.agg x2) fun b5 =>
  C.ld .agg 1 (Addr.mk b3 0 none) fun v18 =>
  C.call n_laws_szStore [(.agg v18), (.int .i64 1048576)] [(.int .i64)] fun r20 =>
  cond (decide (r20 < 0)) (
    C.ret (.bool true)
  ) (
    C.join (TL [.slice, (.int .i64)]) (embL [.slice, (.int .i64)]) (fun s13 => C.any fun _ =>
        C.ld .agg 1 (Addr.mk b3 0 none) fun v33 =>
        C.call n_laws_toStore [(.agg v33)] [.agg] fun r34 =>
        C.new ty_impl_Store (.agg (#[(.slice none 0 0)])) fun b10 =>
        C.st 1 (Addr.mk b10 0 none) (.agg r34) <|
        C.join (TL [.slice, (.int .i64)]) (embL [.slice, (.int .i64)]) (fun s23 => C.any fun _ =>
            C.join (TL []) (embL []) (fun s25 => C.any fun _ =>
                C.join (TL []) (embL []) (fun s30 => C.any fun _ =>
                    C.ld .agg 1 (Addr.mk b10 0 none) fun v58 =>
                    C.call n_laws_markStore [(.agg v58), (.int .i64 1)] [(.int .i64)] fun r60 =>
                    C.join (TL []) (embL []) (fun s34 => C.any fun _ =>
                        C.call n_laws_markKeyS [(.slice s23.1.a s23.1.n s23.1.c), (.int .i64 1)] [(.int .i64)] fun r76 =>
                        C.call n_laws_heldKeyS [(.slice s23.1.a s23.1.n s23.1.c), (.int .i64 1)] [(.int .i64)] fun r79 =>
                        cond (decide (r79 < 0)) (
                          C.ret (.bool false)
                        ) (
                          cond (r79 != r76) (
                            C.ret (.bool false)
                          ) (
                            C.join (TL [.slice, (.int .i64)]) (embL [.slice, (.int .i64)]) (fun s44 => C.any fun _ =>
                                C.join (TL []) (embL []) (fun s46 => C.any fun _ =>
                                    C.call n_laws_heldKeyS [(.slice s23.1.a s23.1.n s23.1.c), (.int .i64 1)] [(.int .i64)] fun r106 =>
                                    cond (decide (r106 < 0)) (
                                      C.ret (.bool false)
                                    ) (
                                      cond (r106 != r76) (
                                        C.ret (.bool false)
                                      ) (
                                        C.ret (.bool true)
                                      )
                                    )
                                  ) fun jt =>
                                C.call n_laws_eqKeyS [(.slice s44.1.a s44.1.n s44.1.c), (.slice s13.1.a s13.1.n s13.1.c)] [.bool] fun r97 =>
                                cond (!r97) (
                                  C.ret (.bool false)
                                ) (
                                  cond (s44.2 != s13.2) (
                                    C.ret (.bool false)
                                  ) (
                                    jt []
                                  )
                                )
                              ) fun jt =>
                            C.draw <|
                            C.ld .agg 1 (Addr.mk b3 0 none) fun v86 =>
                            C.ld .agg 32 (Addr.mk b4 0 none) fun v88 =>
                            C.ld .agg 32 (Addr.mk b5 0 none) fun v90 =>
                            C.call n_laws_toStore [(.agg v86)] [.agg] fun r87 =>
                            C.chk [⟨4, 32, (Addr.mk b5 0 none), .agg, v90⟩, ⟨2, 32, (Addr.mk b4 0 none), .agg, v88⟩] <|
                            C.call n_laws_toKey [(.agg v88)] [.agg] fun r89 =>
                            C.chk [⟨4, 32, (Addr.mk b5 0 none), .agg, v90⟩] <|
                            C.call n_laws_toKey [(.agg v90)] [.agg] fun r91 =>
                            C.call n_impl_LinkPath [(.agg r87), (.agg r89), (.agg r91)] [.slice, (.int .i64)] fun r92 =>
                            jt [(.slice r92.1.a r92.1.n r92.1.c), (.int .i64 r92.2)]
                          )
                        )
                      ) fun jt =>
                    cond (decide (r60 < 0)) (
                      C.ret (.bool false)
                    ) (
                      C.call n_laws_eqKeyS [(.slice s23.1.a s23.1.n s23.1.c), (.slice s13.1.a s13.1.n s13.1.c)] [.bool] fun r66 =>
                      cond (!r66) (
                        C.ret (.bool false)
                      ) (
                        cond (s23.2 != s13.2) (
                          C.ret (.bool false)
                        ) (
                          jt []
                        )
                      )
                    )
                  ) fun jt =>
                C.draw <|
                C.ld .agg 1 (Addr.mk b10 0 none) fun v53 =>
                C.ld .agg 1 (Addr.mk b3 0 none) fun v54 =>
                C.call n_laws_toStore [(.agg v54)] [.agg] fun r55 =>
                C.chk [⟨0, 1, (Addr.mk b10 0 none), .agg, v53⟩] <|
                C.call n_laws_eqStore [(.agg v53), (.agg r55)] [.bool] fun r56 =>
                cond (!r56) (
                  C.ret (.bool false)
                ) (
                  jt []
                )
              ) fun jt =>
            C.call n_laws_eqKeyS [(.slice s23.1.a s23.1.n s23.1.c), (.slice s13.1.a s13.1.n s13.1.c)] [.bool] fun r46 =>
            cond (!r46) (
              C.ret (.bool false)
            ) (
              cond (s23.2 != s13.2) (
                C.ret (.bool false)
              ) (
                jt []
              )
            )
          ) fun jt =>
        C.draw <|
        C.ld .agg 1 (Addr.mk b10 0 none) fun v36 =>
        C.ld .agg 32 (Addr.mk b4 0 none) fun v37 =>
        C.ld .agg 32 (Addr.mk b5 0 none) fun v39 =>
        C.call n_laws_toKey [(.agg v37)] [.agg] fun r38 =>
        C.chk [⟨3, 32, (Addr.mk b5 0 none), .agg, v39⟩, ⟨0, 1, (Addr.mk b10 0 none), .agg, v36⟩] <|
        C.call n_laws_toKey [(.agg v39)] [.agg] fun r40 =>
        C.chk [⟨0, 1, (Addr.mk b10 0 none), .agg, v36⟩] <|
        C.call n_impl_LinkPath [(.agg v36), (.agg r38), (.agg r40)] [.slice, (.int .i64)] fun r41 =>
        jt [(.slice r41.1.a r41.1.n r41.1.c), (.int .i64 r41.2)]
      ) fun jt =>
    C.draw <|
    C.ld .agg 1 (Addr.mk b3 0 none) fun v24 =>
    C.ld .agg 32 (Addr.mk b4 0 none) fun v26 =>
    C.ld .agg 32 (Addr.mk b5 0 none) fun v28 =>
    C.call n_laws_toStore [(.agg v24)] [.agg] fun r25 =>
    C.chk [⟨4, 32, (Addr.mk b5 0 none), .agg, v28⟩, ⟨2, 32, (Addr.mk b4 0 none), .agg, v26⟩] <|
    C.call n_laws_toKey [(.agg v26)] [.agg] fun r27 =>
    C.chk [⟨4, 32, (Addr.mk b5 0 none), .agg, v28⟩] <|
    C.call n_laws_toKey [(.agg v28)] [.agg] fun r29 =>
    C.call n_spec_LinkPath [(.agg r25), (.agg r27), (.agg r29)] [.slice, (.int .i64)] fun r30 =>
    jt [(.slice r30.1.a r30.1.n r30.1.c), (.int .i64 r30.2)]
  )
theorem laws_FnExactLinkPath_eq (C : Comb) (x0 : Array Value) (x1 : Array Value) (x2 : Array Value) : fT C Tryz.prog { loop := [], join := [(16, [(8, .slice), (9, (.int .i64))]), (22, [(11, .slice), (12, (.int .i64))]), (156, []), (171, []), (219, []), (73, [(16, .slice), (17, (.int .i64))]), (309, [])], anyOrder := [5, 7, 10, 24], pure := [] } n_laws_FnExactLinkPath [(.agg x0), (.agg x1), (.agg x2)] = laws_FnExactLinkPath C x0 x1 x2 := by kernel_rfl
theorem laws_FnExactLinkPath_calls {R : Value → World → Prop} {w : World} (x0 : Array Value) (x1 : Array Value) (x2 : Array Value) (h : (laws_FnExactLinkPath (real Tryz.prog R) x0 x1 x2 : World → Prop) w) :
    Calls Tryz.prog n_laws_FnExactLinkPath [(.agg x0), (.agg x1), (.agg x2)].toArray w fun e w' => ∃ v, e = .returned v ∧ R v w' := fT_sound mixed { loop := [], join := [(16, [(8, .slice), (9, (.int .i64))]), (22, [(11, .slice), (12, (.int .i64))]), (156, []), (171, []), (219, []), (73, [(16, .slice), (17, (.int .i64))]), (309, [])], anyOrder := [5, 7, 10, 24], pure := [] } (by rw [laws_FnExactLinkPath_eq]; exact h)

/-- laws.FnExactReachableFrom (4) -/
def laws_FnExactReachableFrom (C : Comb) (x0 : Array Value) (x1 : Sl) : C.St :=
  C.new ty_laws_Store (.agg x0) fun b2 =>
  C.ld .agg 1 (Addr.mk b2 0 none) fun v17 =>
  C.call n_laws_szStore [(.agg v17), (.int .i64 1048576)] [(.int .i64)] fun r19 =>
  cond (decide (r19 < 0)) (
    C.ret (.bool true)
  ) (
    C.call n_laws_szKeyS [(.slice x1.a x1.n x1.c), (.int .i64 r19)] [(.int .i64)] fun r24 =>
    cond (decide (r24 < 0)) (
      C.ret (.bool true)
    ) (
      C.ld .agg 1 (Addr.mk b2 0 none) fun v28 =>
      C.call n_laws_toStore [(.agg v28)] [.agg] fun r29 =>
      C.call n_laws_toKeyS [(.slice x1.a x1.n x1.c)] [.slice] fun r31 =>
      C.call n_spec_ReachableFrom [(.agg r29), (.slice r31.a r31.n r31.c)] [.slice, (.int .i64)] fun r32 =>
      C.ld .agg 1 (Addr.mk b2 0 none) fun v35 =>
      C.call n_laws_toStore [(.agg v35)] [.agg] fun r36 =>
      C.new ty_impl_Store (.agg (#[(.slice none 0 0)])) fun b8 =>
      C.st 1 (Addr.mk b8 0 none) (.agg r36) <|
      C.call n_laws_toKeyS [(.slice x1.a x1.n x1.c)] [.slice] fun r38 =>
      C.ld .agg 1 (Addr.mk b8 0 none) fun v40 =>
      C.call n_impl_ReachableFrom [(.agg v40), (.slice r38.a r38.n r38.c)] [.slice, (.int .i64)] fun r42 =>
      C.join (TL []) (embL []) (fun s16 => C.any fun _ =>
          C.join (TL []) (embL []) (fun s21 => C.any fun _ =>
              C.call n_laws_toKeyS [(.slice x1.a x1.n x1.c)] [.slice] fun r61 =>
              C.call n_laws_eqKeyS [(.slice r38.a r38.n r38.c), (.slice r61.a r61.n r61.c)] [.bool] fun r62 =>
              cond (!r62) (
                C.ret (.bool false)
              ) (
                C.ld .agg 1 (Addr.mk b8 0 none) fun v64 =>
                C.call n_laws_markStore [(.agg v64), (.int .i64 1)] [(.int .i64)] fun r66 =>
                C.call n_laws_markKeyS [(.slice r38.a r38.n r38.c), (.int .i64 r66)] [(.int .i64)] fun r69 =>
                C.join (TL []) (embL []) (fun s28 => C.any fun _ =>
                    C.call n_laws_markKeyS [(.slice r42.1.a r42.1.n r42.1.c), (.int .i64 1)] [(.int .i64)] fun r85 =>
                    C.call n_laws_heldKeyS [(.slice r42.1.a r42.1.n r42.1.c), (.int .i64 1)] [(.int .i64)] fun r88 =>
                    cond (decide (r88 < 0)) (
                      C.ret (.bool false)
                    ) (
                      cond (r88 != r85) (
                        C.ret (.bool false)
                      ) (
                        C.ld .agg 1 (Addr.mk b2 0 none) fun v95 =>
                        C.call n_laws_toStore [(.agg v95)] [.agg] fun r96 =>
                        C.call n_laws_toKeyS [(.slice x1.a x1.n x1.c)] [.slice] fun r98 =>
                        C.call n_impl_ReachableFrom [(.agg r96), (.slice r98.a r98.n r98.c)] [.slice, (.int .i64)] fun r99 =>
                        C.join (TL []) (embL []) (fun s36 => C.any fun _ =>
                            C.call n_laws_heldKeyS [(.slice r42.1.a r42.1.n r42.1.c), (.int .i64 1)] [(.int .i64)] fun r113 =>
                            cond (decide (r113 < 0)) (
                              C.ret (.bool false)
                            ) (
                              cond (r113 != r85) (
                                C.ret (.bool false)
                              ) (
                                C.ret (.bool true)
                              )
                            )
                          ) fun jt =>
                        C.call n_laws_eqKeyS [(.slice r99.1.a r99.1.n r99.1.c), (.slice r32.1.a r32.1.n r32.1.c)] [.bool] fun r104 =>
                        cond (!r104) (
                          C.ret (.bool false)
                        ) (
                          cond (r99.2 != r32.2) (
                            C.ret (.bool false)
                          ) (
                            jt []
                          )
                        )
                      )
                    )
                  ) fun jt =>
                cond (decide (r69 < 0)) (
                  C.ret (.bool false)
                ) (
                  C.call n_laws_eqKeyS [(.slice r42.1.a r42.1.n r42.1.c), (.slice r32.1.a r32.1.n r32.1.c)] [.bool] fun r75 =>
                  cond (!r75) (
                    C.ret (.bool false)
                  ) (
                    cond (r42.2 != r32.2) (
                      C.ret (.bool false)
                    ) (
                      jt []
                    )
                  )
                )
              )
            ) fun jt =>
          C.draw <|
          C.ld .agg 1 (Addr.mk b8 0 none) fun v54 =>
          C.ld .agg 1 (Addr.mk b2 0 none) fun v55 =>
          C.call n_laws_toStore [(.agg v55)] [.agg] fun r56 =>
          C.chk [⟨0, 1, (Addr.mk b8 0 none), .agg, v54⟩] <|
          C.call n_laws_eqStore [(.agg v54), (.agg r56)] [.bool] fun r57 =>
          cond (!r57) (
            C.ret (.bool false)
          ) (
            jt []
          )
        ) fun jt =>
      C.call n_laws_eqKeyS [(.slice r42.1.a r42.1.n r42.1.c), (.slice r32.1.a r32.1.n r32.1.c)] [.bool] fun r47 =>
      cond (!r47) (
        C.ret (.bool false)
      ) (
        cond (r42.2 != r32.2) (
          C.ret (.bool false)
        ) (
          jt []
        )
      )
    )
  )
theorem laws_FnExactReachableFrom_eq (C : Comb) (x0 : Array Value) (x1 : Sl) : fT C Tryz.prog { loop := [], join := [(159, []), (174, []), (246, []), (330, [])], anyOrder := [14], pure := [] } n_laws_FnExactReachableFrom [(.agg x0), (.slice x1.a x1.n x1.c)] = laws_FnExactReachableFrom C x0 x1 := by kernel_rfl
theorem laws_FnExactReachableFrom_calls {R : Value → World → Prop} {w : World} (x0 : Array Value) (x1 : Sl) (h : (laws_FnExactReachableFrom (real Tryz.prog R) x0 x1 : World → Prop) w) :
    Calls Tryz.prog n_laws_FnExactReachableFrom [(.agg x0), (.slice x1.a x1.n x1.c)].toArray w fun e w' => ∃ v, e = .returned v ∧ R v w' := fT_sound mixed { loop := [], join := [(159, []), (174, []), (246, []), (330, [])], anyOrder := [14], pure := [] } (by rw [laws_FnExactReachableFrom_eq]; exact h)

/-- laws.FnExactMissingFrom (5) -/
def laws_FnExactMissingFrom (C : Comb) (x0 : Array Value) (x1 : Sl) : C.St :=
  C.new ty_laws_Store (.agg x0) fun b2 =>
  C.ld .agg 1 (Addr.mk b2 0 none) fun v17 =>
  C.call n_laws_szStore [(.agg v17), (.int .i64 1048576)] [(.int .i64)] fun r19 =>
  cond (decide (r19 < 0)) (
    C.ret (.bool true)
  ) (
    C.call n_laws_szKeyS [(.slice x1.a x1.n x1.c), (.int .i64 r19)] [(.int .i64)] fun r24 =>
    cond (decide (r24 < 0)) (
      C.ret (.bool true)
    ) (
      C.ld .agg 1 (Addr.mk b2 0 none) fun v28 =>
      C.call n_laws_toStore [(.agg v28)] [.agg] fun r29 =>
      C.call n_laws_toKeyS [(.slice x1.a x1.n x1.c)] [.slice] fun r31 =>
      C.call n_spec_MissingFrom [(.agg r29), (.slice r31.a r31.n r31.c)] [.slice, (.int .i64)] fun r32 =>
      C.ld .agg 1 (Addr.mk b2 0 none) fun v35 =>
      C.call n_laws_toStore [(.agg v35)] [.agg] fun r36 =>
      C.new ty_impl_Store (.agg (#[(.slice none 0 0)])) fun b8 =>
      C.st 1 (Addr.mk b8 0 none) (.agg r36) <|
      C.call n_laws_toKeyS [(.slice x1.a x1.n x1.c)] [.slice] fun r38 =>
      C.ld .agg 1 (Addr.mk b8 0 none) fun v40 =>
      C.call n_impl_MissingFrom [(.agg v40), (.slice r38.a r38.n r38.c)] [.slice, (.int .i64)] fun r42 =>
      C.join (TL []) (embL []) (fun s16 => C.any fun _ =>
          C.join (TL []) (embL []) (fun s21 => C.any fun _ =>
              C.call n_laws_toKeyS [(.slice x1.a x1.n x1.c)] [.slice] fun r61 =>
              C.call n_laws_eqKeyS [(.slice r38.a r38.n r38.c), (.slice r61.a r61.n r61.c)] [.bool] fun r62 =>
              cond (!r62) (
                C.ret (.bool false)
              ) (
                C.ld .agg 1 (Addr.mk b8 0 none) fun v64 =>
                C.call n_laws_markStore [(.agg v64), (.int .i64 1)] [(.int .i64)] fun r66 =>
                C.call n_laws_markKeyS [(.slice r38.a r38.n r38.c), (.int .i64 r66)] [(.int .i64)] fun r69 =>
                C.join (TL []) (embL []) (fun s28 => C.any fun _ =>
                    C.call n_laws_markKeyS [(.slice r42.1.a r42.1.n r42.1.c), (.int .i64 1)] [(.int .i64)] fun r85 =>
                    C.call n_laws_heldKeyS [(.slice r42.1.a r42.1.n r42.1.c), (.int .i64 1)] [(.int .i64)] fun r88 =>
                    cond (decide (r88 < 0)) (
                      C.ret (.bool false)
                    ) (
                      cond (r88 != r85) (
                        C.ret (.bool false)
                      ) (
                        C.ld .agg 1 (Addr.mk b2 0 none) fun v95 =>
                        C.call n_laws_toStore [(.agg v95)] [.agg] fun r96 =>
                        C.call n_laws_toKeyS [(.slice x1.a x1.n x1.c)] [.slice] fun r98 =>
                        C.call n_impl_MissingFrom [(.agg r96), (.slice r98.a r98.n r98.c)] [.slice, (.int .i64)] fun r99 =>
                        C.join (TL []) (embL []) (fun s36 => C.any fun _ =>
                            C.call n_laws_heldKeyS [(.slice r42.1.a r42.1.n r42.1.c), (.int .i64 1)] [(.int .i64)] fun r113 =>
                            cond (decide (r113 < 0)) (
                              C.ret (.bool false)
                            ) (
                              cond (r113 != r85) (
                                C.ret (.bool false)
                              ) (
                                C.ret (.bool true)
                              )
                            )
                          ) fun jt =>
                        C.call n_laws_eqKeyS [(.slice r99.1.a r99.1.n r99.1.c), (.slice r32.1.a r32.1.n r32.1.c)] [.bool] fun r104 =>
                        cond (!r104) (
                          C.ret (.bool false)
                        ) (
                          cond (r99.2 != r32.2) (
                            C.ret (.bool false)
                          ) (
                            jt []
                          )
                        )
                      )
                    )
                  ) fun jt =>
                cond (decide (r69 < 0)) (
                  C.ret (.bool false)
                ) (
                  C.call n_laws_eqKeyS [(.slice r42.1.a r42.1.n r42.1.c), (.slice r32.1.a r32.1.n r32.1.c)] [.bool] fun r75 =>
                  cond (!r75) (
                    C.ret (.bool false)
                  ) (
                    cond (r42.2 != r32.2) (
                      C.ret (.bool false)
                    ) (
                      jt []
                    )
                  )
                )
              )
            ) fun jt =>
          C.draw <|
          C.ld .agg 1 (Addr.mk b8 0 none) fun v54 =>
          C.ld .agg 1 (Addr.mk b2 0 none) fun v55 =>
          C.call n_laws_toStore [(.agg v55)] [.agg] fun r56 =>
          C.chk [⟨0, 1, (Addr.mk b8 0 none), .agg, v54⟩] <|
          C.call n_laws_eqStore [(.agg v54), (.agg r56)] [.bool] fun r57 =>
          cond (!r57) (
            C.ret (.bool false)
          ) (
            jt []
          )
        ) fun jt =>
      C.call n_laws_eqKeyS [(.slice r42.1.a r42.1.n r42.1.c), (.slice r32.1.a r32.1.n r32.1.c)] [.bool] fun r47 =>
      cond (!r47) (
        C.ret (.bool false)
      ) (
        cond (r42.2 != r32.2) (
          C.ret (.bool false)
        ) (
          jt []
        )
      )
    )
  )
theorem laws_FnExactMissingFrom_eq (C : Comb) (x0 : Array Value) (x1 : Sl) : fT C Tryz.prog { loop := [], join := [(159, []), (174, []), (246, []), (330, [])], anyOrder := [14], pure := [] } n_laws_FnExactMissingFrom [(.agg x0), (.slice x1.a x1.n x1.c)] = laws_FnExactMissingFrom C x0 x1 := by kernel_rfl
theorem laws_FnExactMissingFrom_calls {R : Value → World → Prop} {w : World} (x0 : Array Value) (x1 : Sl) (h : (laws_FnExactMissingFrom (real Tryz.prog R) x0 x1 : World → Prop) w) :
    Calls Tryz.prog n_laws_FnExactMissingFrom [(.agg x0), (.slice x1.a x1.n x1.c)].toArray w fun e w' => ∃ v, e = .returned v ∧ R v w' := fT_sound mixed { loop := [], join := [(159, []), (174, []), (246, []), (330, [])], anyOrder := [14], pure := [] } (by rw [laws_FnExactMissingFrom_eq]; exact h)

/-- laws.FnExactDeadIn (6) -/
def laws_FnExactDeadIn (C : Comb) (x0 : Array Value) (x1 : Sl) (x2 : Sl) (x3 : Int) : C.St :=
  C.new ty_laws_Store (.agg x0) fun b4 =>
  C.ld .agg 1 (Addr.mk b4 0 none) fun v22 =>
  C.call n_laws_szStore [(.agg v22), (.int .i64 1048576)] [(.int .i64)] fun r24 =>
  cond (decide (r24 < 0)) (
    C.ret (.bool true)
  ) (
    C.call n_laws_szKeyS [(.slice x1.a x1.n x1.c), (.int .i64 r24)] [(.int .i64)] fun r29 =>
    cond (decide (r29 < 0)) (
      C.ret (.bool true)
    ) (
      C.call n_laws_szLeaseS [(.slice x2.a x2.n x2.c), (.int .i64 r29)] [(.int .i64)] fun r34 =>
      cond (decide (r34 < 0)) (
        C.ret (.bool true)
      ) (
        C.ld .agg 1 (Addr.mk b4 0 none) fun v38 =>
        C.call n_laws_toStore [(.agg v38)] [.agg] fun r39 =>
        C.call n_laws_toKeyS [(.slice x1.a x1.n x1.c)] [.slice] fun r41 =>
        C.call n_laws_toLeaseS [(.slice x2.a x2.n x2.c)] [.slice] fun r43 =>
        C.call n_spec_DeadIn [(.agg r39), (.slice r41.a r41.n r41.c), (.slice r43.a r43.n r43.c), (.int .i64 x3)] [.slice, (.int .i64)] fun r45 =>
        C.ld .agg 1 (Addr.mk b4 0 none) fun v48 =>
        C.call n_laws_toStore [(.agg v48)] [.agg] fun r49 =>
        C.new ty_impl_Store (.agg (#[(.slice none 0 0)])) fun b12 =>
        C.st 1 (Addr.mk b12 0 none) (.agg r49) <|
        C.call n_laws_toKeyS [(.slice x1.a x1.n x1.c)] [.slice] fun r51 =>
        C.call n_laws_toLeaseS [(.slice x2.a x2.n x2.c)] [.slice] fun r53 =>
        C.ld .agg 1 (Addr.mk b12 0 none) fun v55 =>
        C.call n_impl_DeadIn [(.agg v55), (.slice r51.a r51.n r51.c), (.slice r53.a r53.n r53.c), (.int .i64 x3)] [.slice, (.int .i64)] fun r59 =>
        C.join (TL []) (embL []) (fun s19 => C.any fun _ =>
            C.join (TL []) (embL []) (fun s24 => C.any fun _ =>
                C.call n_laws_toKeyS [(.slice x1.a x1.n x1.c)] [.slice] fun r78 =>
                C.call n_laws_eqKeyS [(.slice r51.a r51.n r51.c), (.slice r78.a r78.n r78.c)] [.bool] fun r79 =>
                cond (!r79) (
                  C.ret (.bool false)
                ) (
                  C.call n_laws_toLeaseS [(.slice x2.a x2.n x2.c)] [.slice] fun r83 =>
                  C.call n_laws_eqLeaseS [(.slice r53.a r53.n r53.c), (.slice r83.a r83.n r83.c)] [.bool] fun r84 =>
                  cond (!r84) (
                    C.ret (.bool false)
                  ) (
                    C.ld .agg 1 (Addr.mk b12 0 none) fun v86 =>
                    C.call n_laws_markStore [(.agg v86), (.int .i64 1)] [(.int .i64)] fun r88 =>
                    C.call n_laws_markKeyS [(.slice r51.a r51.n r51.c), (.int .i64 r88)] [(.int .i64)] fun r91 =>
                    C.call n_laws_markLeaseS [(.slice r53.a r53.n r53.c), (.int .i64 r91)] [(.int .i64)] fun r94 =>
                    C.join (TL []) (embL []) (fun s34 => C.any fun _ =>
                        C.call n_laws_markKeyS [(.slice r59.1.a r59.1.n r59.1.c), (.int .i64 1)] [(.int .i64)] fun r110 =>
                        C.call n_laws_heldKeyS [(.slice r59.1.a r59.1.n r59.1.c), (.int .i64 1)] [(.int .i64)] fun r113 =>
                        cond (decide (r113 < 0)) (
                          C.ret (.bool false)
                        ) (
                          cond (r113 != r110) (
                            C.ret (.bool false)
                          ) (
                            C.ld .agg 1 (Addr.mk b4 0 none) fun v120 =>
                            C.call n_laws_toStore [(.agg v120)] [.agg] fun r121 =>
                            C.call n_laws_toKeyS [(.slice x1.a x1.n x1.c)] [.slice] fun r123 =>
                            C.call n_laws_toLeaseS [(.slice x2.a x2.n x2.c)] [.slice] fun r125 =>
                            C.call n_impl_DeadIn [(.agg r121), (.slice r123.a r123.n r123.c), (.slice r125.a r125.n r125.c), (.int .i64 x3)] [.slice, (.int .i64)] fun r127 =>
                            C.join (TL []) (embL []) (fun s43 => C.any fun _ =>
                                C.call n_laws_heldKeyS [(.slice r59.1.a r59.1.n r59.1.c), (.int .i64 1)] [(.int .i64)] fun r141 =>
                                cond (decide (r141 < 0)) (
                                  C.ret (.bool false)
                                ) (
                                  cond (r141 != r110) (
                                    C.ret (.bool false)
                                  ) (
                                    C.ret (.bool true)
                                  )
                                )
                              ) fun jt =>
                            C.call n_laws_eqKeyS [(.slice r127.1.a r127.1.n r127.1.c), (.slice r45.1.a r45.1.n r45.1.c)] [.bool] fun r132 =>
                            cond (!r132) (
                              C.ret (.bool false)
                            ) (
                              cond (r127.2 != r45.2) (
                                C.ret (.bool false)
                              ) (
                                jt []
                              )
                            )
                          )
                        )
                      ) fun jt =>
                    cond (decide (r94 < 0)) (
                      C.ret (.bool false)
                    ) (
                      C.call n_laws_eqKeyS [(.slice r59.1.a r59.1.n r59.1.c), (.slice r45.1.a r45.1.n r45.1.c)] [.bool] fun r100 =>
                      cond (!r100) (
                        C.ret (.bool false)
                      ) (
                        cond (r59.2 != r45.2) (
                          C.ret (.bool false)
                        ) (
                          jt []
                        )
                      )
                    )
                  )
                )
              ) fun jt =>
            C.draw <|
            C.ld .agg 1 (Addr.mk b12 0 none) fun v71 =>
            C.ld .agg 1 (Addr.mk b4 0 none) fun v72 =>
            C.call n_laws_toStore [(.agg v72)] [.agg] fun r73 =>
            C.chk [⟨0, 1, (Addr.mk b12 0 none), .agg, v71⟩] <|
            C.call n_laws_eqStore [(.agg v71), (.agg r73)] [.bool] fun r74 =>
            cond (!r74) (
              C.ret (.bool false)
            ) (
              jt []
            )
          ) fun jt =>
        C.call n_laws_eqKeyS [(.slice r59.1.a r59.1.n r59.1.c), (.slice r45.1.a r45.1.n r45.1.c)] [.bool] fun r64 =>
        cond (!r64) (
          C.ret (.bool false)
        ) (
          cond (r59.2 != r45.2) (
            C.ret (.bool false)
          ) (
            jt []
          )
        )
      )
    )
  )
theorem laws_FnExactDeadIn_eq (C : Comb) (x0 : Array Value) (x1 : Sl) (x2 : Sl) (x3 : Int) : fT C Tryz.prog { loop := [], join := [(210, []), (225, []), (321, []), (414, [])], anyOrder := [18], pure := [] } n_laws_FnExactDeadIn [(.agg x0), (.slice x1.a x1.n x1.c), (.slice x2.a x2.n x2.c), (.int .i64 x3)] = laws_FnExactDeadIn C x0 x1 x2 x3 := by kernel_rfl
theorem laws_FnExactDeadIn_calls {R : Value → World → Prop} {w : World} (x0 : Array Value) (x1 : Sl) (x2 : Sl) (x3 : Int) (h : (laws_FnExactDeadIn (real Tryz.prog R) x0 x1 x2 x3 : World → Prop) w) :
    Calls Tryz.prog n_laws_FnExactDeadIn [(.agg x0), (.slice x1.a x1.n x1.c), (.slice x2.a x2.n x2.c), (.int .i64 x3)].toArray w fun e w' => ∃ v, e = .returned v ∧ R v w' := fT_sound mixed { loop := [], join := [(210, []), (225, []), (321, []), (414, [])], anyOrder := [18], pure := [] } (by rw [laws_FnExactDeadIn_eq]; exact h)

/-- laws.FnCollected (7) -/
def laws_FnCollected (C : Comb) (x0 : Sl) (x1 : Sl) : C.St :=
  C.join (TL []) (embL []) (fun s3 => C.any fun _ =>
      C.call n_spec_P6Rooted [(.slice x0.a x0.n x0.c)] [.agg, .slice] fun r40 =>
      C.new ty_impl_Store (.agg (#[(.slice none 0 0)])) fun b5 =>
      C.st 1 (Addr.mk b5 0 none) (.agg r40.1) <|
      C.ld .agg 1 (Addr.mk b5 0 none) fun v44 =>
      C.call n_spec_KeysOfStore [(.agg v44)] [.slice, (.int .i64)] fun r45 =>
      C.sem (Instr.buildSlice ty_sl_impl_Lease 0 #[]) .slice fun y48 =>
      C.join (TL [.slice]) (embL [.slice]) (fun s15 => C.any fun _ =>
          C.call n_spec_P6Pick [(.slice x1.a x1.n x1.c), (.int .i64 10)] [(.int .i64)] fun r64 =>
          C.ld .agg 1 (Addr.mk b5 0 none) fun v66 =>
          C.call n_impl_Collect [(.agg v66), (.slice r40.2.a r40.2.n r40.2.c), (.slice s15.a s15.n s15.c), (.int .i64 r64)] [.agg, (.int .i64)] fun r70 =>
          C.new ty_impl_Store (.agg (#[(.slice none 0 0)])) fun b11 =>
          C.st 1 (Addr.mk b11 0 none) (.agg r70.1) <|
          C.ld .agg 1 (Addr.mk b5 0 none) fun v74 =>
          C.call n_spec_Collect [(.agg v74), (.slice r40.2.a r40.2.n r40.2.c), (.slice s15.a s15.n s15.c), (.int .i64 r64)] [.agg, (.int .i64)] fun r78 =>
          C.new ty_impl_Store (.agg (#[(.slice none 0 0)])) fun b13 =>
          C.st 1 (Addr.mk b13 0 none) (.agg r78.1) <|
          C.ld .agg 1 (Addr.mk b5 0 none) fun v82 =>
          C.call n_impl_DeadIn [(.agg v82), (.slice r40.2.a r40.2.n r40.2.c), (.slice s15.a s15.n s15.c), (.int .i64 r64)] [.slice, (.int .i64)] fun r86 =>
          C.ld .agg 1 (Addr.mk b5 0 none) fun v90 =>
          C.call n_spec_DeadIn [(.agg v90), (.slice r40.2.a r40.2.n r40.2.c), (.slice s15.a s15.n s15.c), (.int .i64 r64)] [.slice, (.int .i64)] fun r94 =>
          C.ld .agg 1 (Addr.mk b13 0 none) fun v98 =>
          C.call n_impl_Collect [(.agg v98), (.slice r40.2.a r40.2.n r40.2.c), (.slice s15.a s15.n s15.c), (.int .i64 r64)] [.agg, (.int .i64)] fun r102 =>
          C.new ty_impl_Store (.agg (#[(.slice none 0 0)])) fun b19 =>
          C.st 1 (Addr.mk b19 0 none) (.agg r102.1) <|
          C.join (TL []) (embL []) (fun s39 => C.any fun _ =>
              C.sem (Instr.buildSlice ty_sl_impl_Key 0 #[]) .slice fun y155 =>
              C.sem (Builtin.append_ #[ty_sl_impl_Key, ty_sl_impl_Key] ty_sl_impl_Key #[(.slice y155.a y155.n y155.c), (.slice r40.2.a r40.2.n r40.2.c)]) .slice fun y157 =>
              C.join (TL [.slice]) (embL [.slice]) (fun s47 => C.any fun _ =>
                  C.ld .agg 1 (Addr.mk b5 0 none) fun v173 =>
                  C.call n_impl_ReachableFrom [(.agg v173), (.slice s47.a s47.n s47.c)] [.slice, (.int .i64)] fun r175 =>
                  C.ld .agg 1 (Addr.mk b13 0 none) fun v179 =>
                  C.call n_impl_KeysOfStore [(.agg v179)] [.slice, (.int .i64)] fun r180 =>
                  C.ld .agg 1 (Addr.mk b5 0 none) fun v184 =>
                  C.call n_impl_MissingFrom [(.agg v184), (.slice r40.2.a r40.2.n r40.2.c)] [.slice, (.int .i64)] fun r186 =>
                  C.ld .agg 1 (Addr.mk b13 0 none) fun v190 =>
                  C.call n_impl_MissingFrom [(.agg v190), (.slice r40.2.a r40.2.n r40.2.c)] [.slice, (.int .i64)] fun r192 =>
                  C.ld .agg 1 (Addr.mk b5 0 none) fun v196 =>
                  C.call n_spec_MissingFrom [(.agg v196), (.slice r40.2.a r40.2.n r40.2.c)] [.slice, (.int .i64)] fun r198 =>
                  cond (r175.2 == 0) (
                    cond (r180.2 == 0) (
                      C.call n_spec_EqualKeys [(.slice r175.1.a r175.1.n r175.1.c), (.slice r180.1.a r180.1.n r180.1.c)] [.bool] fun r210 =>
                      cond r210 (
                        cond (r186.2 == r198.2) (
                          cond (r192.2 == 0) (
                            C.call n_spec_EqualKeys [(.slice r186.1.a r186.1.n r186.1.c), (.slice r198.1.a r198.1.n r198.1.c)] [.bool] fun r224 =>
                            cond r224 (
                              C.call n_spec_EqualKeys [(.slice r192.1.a r192.1.n r192.1.c), (.slice r198.1.a r198.1.n r198.1.c)] [.bool] fun r229 =>
                              C.ret (.bool r229)
                            ) (
                              C.ret (.bool false)
                            )
                          ) (
                            C.ret (.bool false)
                          )
                        ) (
                          C.ret (.bool false)
                        )
                      ) (
                        C.ret (.bool false)
                      )
                    ) (
                      C.ret (.bool false)
                    )
                  ) (
                    C.ret (.bool false)
                  )
                ) fun jt =>
              C.join (TL [.bool]) (embL [.bool]) (fun s42 => C.any fun _ =>
                  cond s42 (
                    C.ix s15.a s15.n 33 0 fun p167 =>
                    C.ld .agg 32 (p167.add 0) fun v169 =>
                    C.sem (Instr.buildSlice ty_sl_impl_Key 1 #[(0, (.agg v169))]) .slice fun y170 =>
                    C.sem (Builtin.append_ #[ty_sl_impl_Key, ty_sl_impl_Key] ty_sl_impl_Key #[(.slice y157.a y157.n y157.c), (.slice y170.a y170.n y170.c)]) .slice fun y171 =>
                    jt [(.slice y171.a y171.n y171.c)]
                  ) (
                    jt [(.slice y157.a y157.n y157.c)]
                  )
                ) fun jt1 =>
              cond (decide ((s15.n : Int) > 0)) (
                jt1 [(.bool (decide (r64 ≤ 5)))]
              ) (
                jt1 [(.bool false)]
              )
            ) fun jt =>
          cond (r45.2 != 0) (
            C.ret (.bool false)
          ) (
            cond (r70.2 != r78.2) (
              C.ret (.bool false)
            ) (
              cond (r70.2 != 0) (
                C.ret (.bool false)
              ) (
                C.ld .agg 1 (Addr.mk b11 0 none) fun v117 =>
                C.ld .agg 1 (Addr.mk b13 0 none) fun v118 =>
                C.call n_spec_SameStore [(.agg v117), (.agg v118)] [.bool] fun r119 =>
                cond (!r119) (
                  C.ret (.bool false)
                ) (
                  cond (r86.2 != r94.2) (
                    C.ret (.bool false)
                  ) (
                    C.call n_spec_EqualKeys [(.slice r86.1.a r86.1.n r86.1.c), (.slice r94.1.a r94.1.n r94.1.c)] [.bool] fun r130 =>
                    cond (!r130) (
                      C.ret (.bool false)
                    ) (
                      cond (r102.2 != 0) (
                        C.ret (.bool false)
                      ) (
                        C.ld .agg 1 (Addr.mk b19 0 none) fun v138 =>
                        C.ld .agg 1 (Addr.mk b13 0 none) fun v139 =>
                        C.call n_spec_SameStore [(.agg v138), (.agg v139)] [.bool] fun r140 =>
                        cond (!r140) (
                          C.ret (.bool false)
                        ) (
                          C.ld .slice 1 ((Addr.mk b13 0 none).add 0) fun v147 =>
                          C.ld .slice 1 ((Addr.mk b5 0 none).add 0) fun v151 =>
                          cond ((IntKind.wrap .i64 ((r94.1.n : Int) + (v147.n : Int))) != (v151.n : Int)) (
                            C.ret (.bool false)
                          ) (
                            jt []
                          )
                        )
                      )
                    )
                  )
                )
              )
            )
          )
        ) fun jt =>
      cond (decide ((r45.1.n : Int) > 0)) (
        C.call n_spec_P6Pick [(.slice x1.a x1.n x1.c), (.int .i64 (r45.1.n : Int))] [(.int .i64)] fun r57 =>
        C.ix r45.1.a r45.1.n 32 r57 fun p58 =>
        C.ld .agg 32 p58 fun v59 =>
        C.pur (Instr.build ty_impl_Lease #[(0, (.agg v59)), (1, (.int .i64 5))]) .agg fun y60 =>
        C.sem (Instr.buildSlice ty_sl_impl_Lease 1 #[(0, (.agg y60))]) .slice fun y61 =>
        C.sem (Builtin.append_ #[ty_sl_impl_Lease, ty_sl_impl_Lease] ty_sl_impl_Lease #[(.slice y48.a y48.n y48.c), (.slice y61.a y61.n y61.c)]) .slice fun y62 =>
        jt [(.slice y62.a y62.n y62.c)]
      ) (
        jt [(.slice y48.a y48.n y48.c)]
      )
    ) fun jt =>
  C.call n_laws_f6big [(.slice x0.a x0.n x0.c)] [.bool] fun r33 =>
  cond r33 (
    C.ret (.bool true)
  ) (
    C.call n_laws_f6big [(.slice x1.a x1.n x1.c)] [.bool] fun r36 =>
    cond r36 (
      C.ret (.bool true)
    ) (
      jt []
    )
  )
theorem laws_FnCollected_eq (C : Comb) (x0 : Sl) (x1 : Sl) : fT C Tryz.prog { loop := [], join := [(111, []), (153, [(9, .slice)]), (462, []), (52, [(164, .bool)]), (492, [(21, .slice)])], anyOrder := [], pure := [] } n_laws_FnCollected [(.slice x0.a x0.n x0.c), (.slice x1.a x1.n x1.c)] = laws_FnCollected C x0 x1 := by kernel_rfl
theorem laws_FnCollected_calls {R : Value → World → Prop} {w : World} (x0 : Sl) (x1 : Sl) (h : (laws_FnCollected (real Tryz.prog R) x0 x1 : World → Prop) w) :
    Calls Tryz.prog n_laws_FnCollected [(.slice x0.a x0.n x0.c), (.slice x1.a x1.n x1.c)].toArray w fun e w' => ∃ v, e = .returned v ∧ R v w' := fT_sound mixed { loop := [], join := [(111, []), (153, [(9, .slice)]), (462, []), (52, [(164, .bool)]), (492, [(21, .slice)])], anyOrder := [], pure := [] } (by rw [laws_FnCollected_eq]; exact h)

/-- laws.FnExactCollect (8) -/
def laws_FnExactCollect (C : Comb) (x0 : Array Value) (x1 : Sl) (x2 : Sl) (x3 : Int) : C.St :=
  C.new ty_laws_Store (.agg x0) fun b4 =>
  C.ld .agg 1 (Addr.mk b4 0 none) fun v22 =>
  C.call n_laws_szStore [(.agg v22), (.int .i64 1048576)] [(.int .i64)] fun r24 =>
  cond (decide (r24 < 0)) (
    C.ret (.bool true)
  ) (
    C.call n_laws_szKeyS [(.slice x1.a x1.n x1.c), (.int .i64 r24)] [(.int .i64)] fun r29 =>
    cond (decide (r29 < 0)) (
      C.ret (.bool true)
    ) (
      C.call n_laws_szLeaseS [(.slice x2.a x2.n x2.c), (.int .i64 r29)] [(.int .i64)] fun r34 =>
      cond (decide (r34 < 0)) (
        C.ret (.bool true)
      ) (
        C.ld .agg 1 (Addr.mk b4 0 none) fun v38 =>
        C.call n_laws_toStore [(.agg v38)] [.agg] fun r39 =>
        C.call n_laws_toKeyS [(.slice x1.a x1.n x1.c)] [.slice] fun r41 =>
        C.call n_laws_toLeaseS [(.slice x2.a x2.n x2.c)] [.slice] fun r43 =>
        C.call n_spec_Collect [(.agg r39), (.slice r41.a r41.n r41.c), (.slice r43.a r43.n r43.c), (.int .i64 x3)] [.agg, (.int .i64)] fun r45 =>
        C.new ty_impl_Store (.agg (#[(.slice none 0 0)])) fun b10 =>
        C.st 1 (Addr.mk b10 0 none) (.agg r45.1) <|
        C.ld .agg 1 (Addr.mk b4 0 none) fun v48 =>
        C.call n_laws_toStore [(.agg v48)] [.agg] fun r49 =>
        C.new ty_impl_Store (.agg (#[(.slice none 0 0)])) fun b12 =>
        C.st 1 (Addr.mk b12 0 none) (.agg r49) <|
        C.call n_laws_toKeyS [(.slice x1.a x1.n x1.c)] [.slice] fun r51 =>
        C.call n_laws_toLeaseS [(.slice x2.a x2.n x2.c)] [.slice] fun r53 =>
        C.ld .agg 1 (Addr.mk b12 0 none) fun v55 =>
        C.call n_impl_Collect [(.agg v55), (.slice r51.a r51.n r51.c), (.slice r53.a r53.n r53.c), (.int .i64 x3)] [.agg, (.int .i64)] fun r59 =>
        C.new ty_impl_Store (.agg (#[(.slice none 0 0)])) fun b15 =>
        C.st 1 (Addr.mk b15 0 none) (.agg r59.1) <|
        C.join (TL []) (embL []) (fun s23 => C.any fun _ =>
            C.join (TL []) (embL []) (fun s28 => C.any fun _ =>
                C.call n_laws_toKeyS [(.slice x1.a x1.n x1.c)] [.slice] fun r78 =>
                C.call n_laws_eqKeyS [(.slice r51.a r51.n r51.c), (.slice r78.a r78.n r78.c)] [.bool] fun r79 =>
                cond (!r79) (
                  C.ret (.bool false)
                ) (
                  C.call n_laws_toLeaseS [(.slice x2.a x2.n x2.c)] [.slice] fun r83 =>
                  C.call n_laws_eqLeaseS [(.slice r53.a r53.n r53.c), (.slice r83.a r83.n r83.c)] [.bool] fun r84 =>
                  cond (!r84) (
                    C.ret (.bool false)
                  ) (
                    C.ld .agg 1 (Addr.mk b12 0 none) fun v86 =>
                    C.call n_laws_markStore [(.agg v86), (.int .i64 1)] [(.int .i64)] fun r88 =>
                    C.call n_laws_markKeyS [(.slice r51.a r51.n r51.c), (.int .i64 r88)] [(.int .i64)] fun r91 =>
                    C.call n_laws_markLeaseS [(.slice r53.a r53.n r53.c), (.int .i64 r91)] [(.int .i64)] fun r94 =>
                    C.join (TL []) (embL []) (fun s40 => C.any fun _ =>
                        C.ld .agg 1 (Addr.mk b15 0 none) fun v108 =>
                        C.call n_laws_markStore [(.agg v108), (.int .i64 1)] [(.int .i64)] fun r110 =>
                        C.ld .agg 1 (Addr.mk b15 0 none) fun v111 =>
                        C.call n_laws_heldStore [(.agg v111), (.int .i64 1)] [(.int .i64)] fun r113 =>
                        cond (decide (r113 < 0)) (
                          C.ret (.bool false)
                        ) (
                          cond (r113 != r110) (
                            C.ret (.bool false)
                          ) (
                            C.ld .agg 1 (Addr.mk b4 0 none) fun v120 =>
                            C.call n_laws_toStore [(.agg v120)] [.agg] fun r121 =>
                            C.call n_laws_toKeyS [(.slice x1.a x1.n x1.c)] [.slice] fun r123 =>
                            C.call n_laws_toLeaseS [(.slice x2.a x2.n x2.c)] [.slice] fun r125 =>
                            C.call n_impl_Collect [(.agg r121), (.slice r123.a r123.n r123.c), (.slice r125.a r125.n r125.c), (.int .i64 x3)] [.agg, (.int .i64)] fun r127 =>
                            C.new ty_impl_Store (.agg (#[(.slice none 0 0)])) fun b20 =>
                            C.st 1 (Addr.mk b20 0 none) (.agg r127.1) <|
                            C.join (TL []) (embL []) (fun s54 => C.any fun _ =>
                                C.ld .agg 1 (Addr.mk b15 0 none) fun v139 =>
                                C.call n_laws_heldStore [(.agg v139), (.int .i64 1)] [(.int .i64)] fun r141 =>
                                cond (decide (r141 < 0)) (
                                  C.ret (.bool false)
                                ) (
                                  cond (r141 != r110) (
                                    C.ret (.bool false)
                                  ) (
                                    C.ret (.bool true)
                                  )
                                )
                              ) fun jt =>
                            C.ld .agg 1 (Addr.mk b20 0 none) fun v130 =>
                            C.ld .agg 1 (Addr.mk b10 0 none) fun v131 =>
                            C.call n_laws_eqStore [(.agg v130), (.agg v131)] [.bool] fun r132 =>
                            cond (!r132) (
                              C.ret (.bool false)
                            ) (
                              cond (r127.2 != r45.2) (
                                C.ret (.bool false)
                              ) (
                                jt []
                              )
                            )
                          )
                        )
                      ) fun jt =>
                    cond (decide (r94 < 0)) (
                      C.ret (.bool false)
                    ) (
                      C.ld .agg 1 (Addr.mk b15 0 none) fun v98 =>
                      C.ld .agg 1 (Addr.mk b10 0 none) fun v99 =>
                      C.call n_laws_eqStore [(.agg v98), (.agg v99)] [.bool] fun r100 =>
                      cond (!r100) (
                        C.ret (.bool false)
                      ) (
                        cond (r59.2 != r45.2) (
                          C.ret (.bool false)
                        ) (
                          jt []
                        )
                      )
                    )
                  )
                )
              ) fun jt =>
            C.draw <|
            C.ld .agg 1 (Addr.mk b12 0 none) fun v71 =>
            C.ld .agg 1 (Addr.mk b4 0 none) fun v72 =>
            C.call n_laws_toStore [(.agg v72)] [.agg] fun r73 =>
            C.chk [⟨0, 1, (Addr.mk b12 0 none), .agg, v71⟩] <|
            C.call n_laws_eqStore [(.agg v71), (.agg r73)] [.bool] fun r74 =>
            cond (!r74) (
              C.ret (.bool false)
            ) (
              jt []
            )
          ) fun jt =>
        C.ld .agg 1 (Addr.mk b15 0 none) fun v62 =>
        C.ld .agg 1 (Addr.mk b10 0 none) fun v63 =>
        C.call n_laws_eqStore [(.agg v62), (.agg v63)] [.bool] fun r64 =>
        cond (!r64) (
          C.ret (.bool false)
        ) (
          cond (r59.2 != r45.2) (
            C.ret (.bool false)
          ) (
            jt []
          )
        )
      )
    )
  )
theorem laws_FnExactCollect_eq (C : Comb) (x0 : Array Value) (x1 : Sl) (x2 : Sl) (x3 : Int) : fT C Tryz.prog { loop := [], join := [(210, []), (225, []), (321, []), (414, [])], anyOrder := [18], pure := [] } n_laws_FnExactCollect [(.agg x0), (.slice x1.a x1.n x1.c), (.slice x2.a x2.n x2.c), (.int .i64 x3)] = laws_FnExactCollect C x0 x1 x2 x3 := by kernel_rfl
theorem laws_FnExactCollect_calls {R : Value → World → Prop} {w : World} (x0 : Array Value) (x1 : Sl) (x2 : Sl) (x3 : Int) (h : (laws_FnExactCollect (real Tryz.prog R) x0 x1 x2 x3 : World → Prop) w) :
    Calls Tryz.prog n_laws_FnExactCollect [(.agg x0), (.slice x1.a x1.n x1.c), (.slice x2.a x2.n x2.c), (.int .i64 x3)].toArray w fun e w' => ∃ v, e = .returned v ∧ R v w' := fT_sound mixed { loop := [], join := [(210, []), (225, []), (321, []), (414, [])], anyOrder := [18], pure := [] } (by rw [laws_FnExactCollect_eq]; exact h)

/-- laws.FnLinks (9) -/
def laws_FnLinks (C : Comb) (x0 : Sl) (x1 : Sl) : C.St :=
  C.join (TL []) (embL []) (fun s3 => C.any fun _ =>
      C.call n_spec_P6Store [(.slice x0.a x0.n x0.c)] [.agg] fun r36 =>
      C.new ty_impl_Store (.agg (#[(.slice none 0 0)])) fun b5 =>
      C.st 1 (Addr.mk b5 0 none) (.agg r36) <|
      C.ld .agg 1 (Addr.mk b5 0 none) fun v38 =>
      C.call n_spec_KeysOfStore [(.agg v38)] [.slice, (.int .i64)] fun r39 =>
      C.ld .agg 1 (Addr.mk b5 0 none) fun v43 =>
      C.call n_impl_LinkCounts [(.agg v43)] [.slice, (.int .i64)] fun r44 =>
      C.ld .agg 1 (Addr.mk b5 0 none) fun v48 =>
      C.call n_spec_LinkCounts [(.agg v48)] [.slice, (.int .i64)] fun r49 =>
      C.ld .agg 1 (Addr.mk b5 0 none) fun v53 =>
      C.call n_impl_RootsOf [(.agg v53)] [.slice, (.int .i64)] fun r54 =>
      C.join (TL []) (embL []) (fun s14 => C.any fun _ =>
          C.loop (TL [(.int .i64), (.int .i64)]) (embL [(.int .i64), (.int .i64)]) [(.int .i64 0), (.int .i64 0)] fun s15 ct15 => C.any fun _ =>
          cond (decide (s15.2 < (r49.1.n : Int))) (
            C.join (TL []) (embL []) (fun s33 => C.any fun _ =>
                C.ix r49.1.a r49.1.n 1 s15.2 fun p117 =>
                C.ld (.int .i64) 1 p117 fun v118 =>
                cond (v118 == 0) (
                  ct15 [(.int .i64 (IntKind.wrap .i64 (s15.1 + 1))), (.int .i64 (IntKind.wrap .i64 (s15.2 + 1)))]
                ) (
                  ct15 [(.int .i64 s15.1), (.int .i64 (IntKind.wrap .i64 (s15.2 + 1)))]
                )
              ) fun jt =>
            C.draw <|
            C.ix r44.1.a r44.1.n 1 s15.2 fun p94 =>
            C.ld (.int .i64) 1 p94 fun v95 =>
            C.ix r49.1.a r49.1.n 1 s15.2 fun p98 =>
            C.ld (.int .i64) 1 p98 fun v99 =>
            cond (v95 != v99) (
              C.all [
                (C.chk [⟨7, 1, p98, (.int .i64), v99⟩, ⟨3, 1, p94, (.int .i64), v95⟩] <|
                 C.chk [⟨7, 1, p98, (.int .i64), v99⟩, ⟨3, 1, p94, (.int .i64), v95⟩] <|
                 C.chk [⟨7, 1, p98, (.int .i64), v99⟩, ⟨3, 1, p94, (.int .i64), v95⟩] <|
                 C.ret (.bool false)),
                (C.chk [⟨7, 1, p98, (.int .i64), v99⟩, ⟨3, 1, p94, (.int .i64), v95⟩] <|
                 C.all [
                   (C.chk [⟨7, 1, p98, (.int .i64), v99⟩, ⟨3, 1, p94, (.int .i64), v95⟩] <|
                    C.chk [⟨7, 1, p98, (.int .i64), v99⟩, ⟨3, 1, p94, (.int .i64), v95⟩] <|
                    C.ret (.bool false)),
                   (C.chk [⟨7, 1, p98, (.int .i64), v99⟩, ⟨3, 1, p94, (.int .i64), v95⟩] <|
                    C.chk [⟨7, 1, p98, (.int .i64), v99⟩, ⟨3, 1, p94, (.int .i64), v95⟩] <|
                    C.ret (.bool false))])]
            ) (
              C.ix r49.1.a r49.1.n 1 s15.2 fun p104 =>
              C.ix r39.1.a r39.1.n 32 s15.2 fun p110 =>
              C.all [
                (C.ld (.int .i64) 1 p104 fun v105 =>
                 C.chk [⟨7, 1, p98, (.int .i64), v99⟩, ⟨3, 1, p94, (.int .i64), v95⟩] <|
                 C.ld .agg 32 p110 fun v111 =>
                 C.chk [⟨7, 1, p98, (.int .i64), v99⟩, ⟨3, 1, p94, (.int .i64), v95⟩] <|
                 C.call n_spec_HasKey [(.slice r54.1.a r54.1.n r54.1.c), (.agg v111)] [.bool] fun r112 =>
                 C.chk [⟨7, 1, p98, (.int .i64), v99⟩, ⟨3, 1, p94, (.int .i64), v95⟩] <|
                 C.pur (eqB .neq ty_bool (.tmp 106) (.tmp 112) (.bool (v105 == 0)) (.bool r112)) .bool fun y113 =>
                 cond y113 (
                   C.ret (.bool false)
                 ) (
                   jt []
                 )),
                (C.ld .agg 32 p110 fun v111 =>
                 C.chk [⟨7, 1, p98, (.int .i64), v99⟩, ⟨3, 1, p94, (.int .i64), v95⟩] <|
                 C.all [
                   (C.ld (.int .i64) 1 p104 fun v105 =>
                    C.chk [⟨7, 1, p98, (.int .i64), v99⟩, ⟨3, 1, p94, (.int .i64), v95⟩] <|
                    C.call n_spec_HasKey [(.slice r54.1.a r54.1.n r54.1.c), (.agg v111)] [.bool] fun r112 =>
                    C.chk [⟨7, 1, p98, (.int .i64), v99⟩, ⟨3, 1, p94, (.int .i64), v95⟩] <|
                    C.pur (eqB .neq ty_bool (.tmp 106) (.tmp 112) (.bool (v105 == 0)) (.bool r112)) .bool fun y113 =>
                    cond y113 (
                      C.ret (.bool false)
                    ) (
                      jt []
                    )),
                   (C.call n_spec_HasKey [(.slice r54.1.a r54.1.n r54.1.c), (.agg v111)] [.bool] fun r112 =>
                    C.chk [⟨7, 1, p98, (.int .i64), v99⟩, ⟨3, 1, p94, (.int .i64), v95⟩] <|
                    C.ld (.int .i64) 1 p104 fun v105 =>
                    C.chk [⟨7, 1, p98, (.int .i64), v99⟩, ⟨3, 1, p94, (.int .i64), v95⟩] <|
                    C.pur (eqB .neq ty_bool (.tmp 106) (.tmp 112) (.bool (v105 == 0)) (.bool r112)) .bool fun y113 =>
                    cond y113 (
                      C.ret (.bool false)
                    ) (
                      jt []
                    ))])]
            )
          ) (
            cond ((r54.1.n : Int) != s15.1) (
              C.ret (.bool false)
            ) (
              cond ((r39.1.n : Int) == 0) (
                C.ret (.bool true)
              ) (
                C.call n_spec_P6Pick [(.slice x1.a x1.n x1.c), (.int .i64 (r39.1.n : Int))] [(.int .i64)] fun r133 =>
                C.ix r39.1.a r39.1.n 32 r133 fun p134 =>
                C.ld .agg 32 p134 fun v135 =>
                C.new ty_impl_Key (.agg (Array.replicate 32 (.int .u8 0))) fun b16 =>
                C.st 32 (Addr.mk b16 0 none) (.agg v135) <|
                C.call n_spec_P6Pick [(.slice x0.a x0.n x0.c), (.int .i64 (r39.1.n : Int))] [(.int .i64)] fun r140 =>
                C.ix r39.1.a r39.1.n 32 r140 fun p141 =>
                C.ld .agg 32 p141 fun v142 =>
                C.new ty_impl_Key (.agg (Array.replicate 32 (.int .u8 0))) fun b17 =>
                C.st 32 (Addr.mk b17 0 none) (.agg v142) <|
                C.ld .agg 1 (Addr.mk b5 0 none) fun v144 =>
                C.ld .agg 32 (Addr.mk b16 0 none) fun v145 =>
                C.ld .agg 32 (Addr.mk b17 0 none) fun v146 =>
                C.call n_impl_LinkPath [(.agg v144), (.agg v145), (.agg v146)] [.slice, (.int .i64)] fun r147 =>
                C.ld .agg 1 (Addr.mk b5 0 none) fun v151 =>
                C.ld .agg 32 (Addr.mk b16 0 none) fun v152 =>
                C.ld .agg 32 (Addr.mk b17 0 none) fun v153 =>
                C.call n_spec_LinkPath [(.agg v151), (.agg v152), (.agg v153)] [.slice, (.int .i64)] fun r154 =>
                C.ld .agg 1 (Addr.mk b5 0 none) fun v158 =>
                C.ld .agg 32 (Addr.mk b16 0 none) fun v159 =>
                C.sem (Instr.buildSlice ty_sl_impl_Key 1 #[(0, (.agg v159))]) .slice fun y160 =>
                C.call n_spec_ReachableFrom [(.agg v158), (.slice y160.a y160.n y160.c)] [.slice, (.int .i64)] fun r161 =>
                C.join (TL []) (embL []) (fun s60 => C.any fun _ =>
                    cond (r147.2 != 0) (
                      C.ret (.bool (r147.2 == 6))
                    ) (
                      C.join (TL []) (embL []) (fun s69 => C.any fun _ =>
                          C.loop (TL [(.int .i64)]) (embL [(.int .i64)]) [(.int .i64 1)] fun s70 ct70 => C.any fun _ =>
                          cond (decide (s70 < (r154.1.n : Int))) (
                            C.join (TL [.ptr, (.int .i64)]) (embL [.ptr, (.int .i64)]) (fun s78 => C.any fun _ =>
                                C.ld .agg 2 s78.1 fun v226 =>
                                C.call n_impl_LinksOf [(.agg v226)] [.slice, (.int .i64)] fun r227 =>
                                cond (s78.2 != 0) (
                                  C.ret (.bool false)
                                ) (
                                  cond (r227.2 != 0) (
                                    C.ret (.bool false)
                                  ) (
                                    C.ix r154.1.a r154.1.n 32 s70 fun p240 =>
                                    C.ld .agg 32 p240 fun v241 =>
                                    C.call n_spec_HasKey [(.slice r227.1.a r227.1.n r227.1.c), (.agg v241)] [.bool] fun r242 =>
                                    cond (!r242) (
                                      C.ret (.bool false)
                                    ) (
                                      ct70 [(.int .i64 (IntKind.wrap .i64 (s70 + 1)))]
                                    )
                                  )
                                )
                              ) fun jt =>
                            C.draw <|
                            C.ld .agg 1 (Addr.mk b5 0 none) fun v216 =>
                            C.ix r154.1.a r154.1.n 32 (IntKind.wrap .i64 (s70 - 1)) fun p220 =>
                            C.ld .agg 32 p220 fun v221 =>
                            C.all [
                              (C.call n_spec_GetBlob [(.agg v216), (.agg v221)] [.agg, (.int .i64)] fun r222 =>
                               C.new ty_impl_Blob (.agg (#[(.int .u8 0), (.slice none 0 0)])) fun b25 =>
                               C.st 2 (Addr.mk b25 0 none) (.agg r222.1) <|
                               jt [(.pointer (some (Addr.mk b25 0 none))), (.int .i64 r222.2)]),
                              (C.new ty_impl_Blob (.agg (#[(.int .u8 0), (.slice none 0 0)])) fun b25 =>
                               C.chk [⟨5, 32, p220, .agg, v221⟩, ⟨0, 1, (Addr.mk b5 0 none), .agg, v216⟩] <|
                               C.call n_spec_GetBlob [(.agg v216), (.agg v221)] [.agg, (.int .i64)] fun r222 =>
                               C.st 2 (Addr.mk b25 0 none) (.agg r222.1) <|
                               jt [(.pointer (some (Addr.mk b25 0 none))), (.int .i64 r222.2)])]
                          ) (
                            C.ret (.bool true)
                          )
                        ) fun jt =>
                      C.draw <|
                      cond ((r154.1.n : Int) == 0) (
                        C.ret (.bool false)
                      ) (
                        C.ix r154.1.a r154.1.n 32 0 fun p194 =>
                        C.ld .agg 32 p194 fun v195 =>
                        C.ld .agg 32 (Addr.mk b16 0 none) fun v196 =>
                        C.pur (eqB .neq ty_impl_Key (.tmp 195) (.tmp 196) (.agg v195) (.agg v196)) .bool fun y197 =>
                        cond y197 (
                          C.ret (.bool false)
                        ) (
                          C.ix r154.1.a r154.1.n 32 (IntKind.wrap .i64 ((r154.1.n : Int) - 1)) fun p204 =>
                          C.ld .agg 32 p204 fun v205 =>
                          C.ld .agg 32 (Addr.mk b17 0 none) fun v206 =>
                          C.pur (eqB .neq ty_impl_Key (.tmp 205) (.tmp 206) (.agg v205) (.agg v206)) .bool fun y207 =>
                          cond y207 (
                            C.ret (.bool false)
                          ) (
                            jt []
                          )
                        )
                      )
                    )
                  ) fun jt =>
                cond (r147.2 != r154.2) (
                  C.ret (.bool false)
                ) (
                  C.call n_spec_EqualKeys [(.slice r147.1.a r147.1.n r147.1.c), (.slice r154.1.a r154.1.n r154.1.c)] [.bool] fun r170 =>
                  cond (!r170) (
                    C.ret (.bool false)
                  ) (
                    cond (r161.2 != 0) (
                      C.ret (.bool false)
                    ) (
                      C.ld .agg 32 (Addr.mk b17 0 none) fun v181 =>
                      C.call n_spec_HasKey [(.slice r161.1.a r161.1.n r161.1.c), (.agg v181)] [.bool] fun r182 =>
                      C.pur (eqB .neq ty_bool (.tmp 179) (.tmp 182) (.bool (r147.2 == 0)) (.bool r182)) .bool fun y183 =>
                      cond y183 (
                        C.ret (.bool false)
                      ) (
                        jt []
                      )
                    )
                  )
                )
              )
            )
          )
        ) fun jt =>
      cond (r39.2 != 0) (
        C.ret (.bool false)
      ) (
        cond (r44.2 != r49.2) (
          C.ret (.bool false)
        ) (
          cond (r44.2 != 0) (
            C.ret (.bool false)
          ) (
            cond ((r44.1.n : Int) != (r49.1.n : Int)) (
              C.ret (.bool false)
            ) (
              cond ((r49.1.n : Int) != (r39.1.n : Int)) (
                C.ret (.bool false)
              ) (
                cond (r54.2 != 0) (
                  C.ret (.bool false)
                ) (
                  jt []
                )
              )
            )
          )
        )
      )
    ) fun jt =>
  C.call n_laws_f6big [(.slice x0.a x0.n x0.c)] [.bool] fun r30 =>
  cond r30 (
    C.ret (.bool true)
  ) (
    C.call n_laws_f6big [(.slice x1.a x1.n x1.c)] [.bool] fun r33 =>
    cond r33 (
      C.ret (.bool true)
    ) (
      jt []
    )
  )
theorem laws_FnLinks_eq (C : Comb) (x0 : Sl) (x1 : Sl) : fT C Tryz.prog { loop := [(12, [(14, (.int .i64)), (15, (.int .i64))]), (34, [(24, (.int .i64))])], join := [(102, []), (255, []), (342, []), (552, []), (624, []), (109, [(25, .ptr), (26, (.int .i64))])], anyOrder := [14, 36], pure := [] } n_laws_FnLinks [(.slice x0.a x0.n x0.c), (.slice x1.a x1.n x1.c)] = laws_FnLinks C x0 x1 := by kernel_rfl
theorem laws_FnLinks_calls {R : Value → World → Prop} {w : World} (x0 : Sl) (x1 : Sl) (h : (laws_FnLinks (real Tryz.prog R) x0 x1 : World → Prop) w) :
    Calls Tryz.prog n_laws_FnLinks [(.slice x0.a x0.n x0.c), (.slice x1.a x1.n x1.c)].toArray w fun e w' => ∃ v, e = .returned v ∧ R v w' := fT_sound mixed { loop := [(12, [(14, (.int .i64)), (15, (.int .i64))]), (34, [(24, (.int .i64))])], join := [(102, []), (255, []), (342, []), (552, []), (624, []), (109, [(25, .ptr), (26, (.int .i64))])], anyOrder := [14, 36], pure := [] } (by rw [laws_FnLinks_eq]; exact h)

/-- laws.szStore (10) -/
def laws_szStore (C : Comb) (x0 : Array Value) (x1 : Int) : C.St :=
  C.new ty_laws_Store (.agg x0) fun b2 =>
  C.ld .slice 1 ((Addr.mk b2 0 none).add 0) fun v6 =>
  C.call n_laws_szBlobS [(.slice v6.a v6.n v6.c), (.int .i64 x1)] [(.int .i64)] fun r8 =>
  cond (decide (r8 < 0)) (
    C.ret (.int .i64 (-1))
  ) (
    C.ret (.int .i64 r8)
  )
theorem laws_szStore_eq (C : Comb) (x0 : Array Value) (x1 : Int) : fT C Tryz.prog { loop := [], join := [], anyOrder := [], pure := [] } n_laws_szStore [(.agg x0), (.int .i64 x1)] = laws_szStore C x0 x1 := by kernel_rfl
theorem laws_szStore_calls {R : Value → World → Prop} {w : World} (x0 : Array Value) (x1 : Int) (h : (laws_szStore (real Tryz.prog R) x0 x1 : World → Prop) w) :
    Calls Tryz.prog n_laws_szStore [(.agg x0), (.int .i64 x1)].toArray w fun e w' => ∃ v, e = .returned v ∧ R v w' := fT_sound mixed { loop := [], join := [], anyOrder := [], pure := [] } (by rw [laws_szStore_eq]; exact h)

/-- spec.LinkPath (11) -/
def spec_LinkPath (C : Comb) (x0 : Array Value) (x1 : Array Value) (x2 : Array Value) : C.St :=
  C.new ty_impl_Store (.agg x0) fun b3 =>
  C.new ty_impl_Key (.agg x1) fun b4 =>
  C.new ty_impl_Key (.agg x2) fun b5 =>
  C.call n_spec_l05Open [(.pointer (some (Addr.mk b3 0 none)))] [.optr, .bool] fun r18 =>
  cond (!r18.2) (
    C.sem (Instr.buildSlice ty_sl_impl_Key 0 #[]) .slice fun y23 =>
    C.ret (.tuple #[(.slice y23.a y23.n y23.c), (.int .i64 1)])
  ) (
    C.join (TL []) (embL []) (fun s12 => C.any fun _ =>
        C.ld .agg 32 (Addr.mk b4 0 none) fun v35 =>
        C.sem (Instr.buildSlice ty_sl_impl_Key 1 #[(0, (.agg v35))]) .slice fun y36 =>
        C.sem (Instr.buildSlice ty_sl_int 1 #[(0, (.int .i64 (-1)))]) .slice fun y37 =>
        C.loop (TL [.slice, .slice, (.int .i64)]) (embL [.slice, .slice, (.int .i64)]) [(.slice y36.a y36.n y36.c), (.slice y37.a y37.n y37.c), (.int .i64 0)] fun s16 ct16 => C.any fun _ =>
        cond (decide (s16.2.2 < (s16.1.n : Int))) (
          C.draw <|
          C.ix s16.1.a s16.1.n 32 s16.2.2 fun p46 =>
          C.ld .agg 32 p46 fun v47 =>
          C.ld .agg 32 (Addr.mk b5 0 none) fun v48 =>
          C.pur (eqB .eql ty_impl_Key (.tmp 47) (.tmp 48) (.agg v47) (.agg v48)) .bool fun y49 =>
          cond y49 (
            C.sem (Instr.buildSlice ty_sl_impl_Key 0 #[]) .slice fun y50 =>
            C.loop (TL [.slice, (.int .i64)]) (embL [.slice, (.int .i64)]) [(.slice y50.a y50.n y50.c), (.int .i64 s16.2.2)] fun s22 ct22 => C.any fun _ =>
            cond (decide (s22.2 ≥ 0)) (
              C.ix s16.1.a s16.1.n 32 s22.2 fun p60 =>
              C.ld .agg 32 p60 fun v61 =>
              C.sem (Instr.buildSlice ty_sl_impl_Key 1 #[(0, (.agg v61))]) .slice fun y62 =>
              C.sem (Builtin.append_ #[ty_sl_impl_Key, ty_sl_impl_Key] ty_sl_impl_Key #[(.slice y62.a y62.n y62.c), (.slice s22.1.a s22.1.n s22.1.c)]) .slice fun y64 =>
              C.ix s16.2.1.a s16.2.1.n 1 s22.2 fun p56 =>
              C.ld (.int .i64) 1 p56 fun v57 =>
              ct22 [(.slice y64.a y64.n y64.c), (.int .i64 v57)]
            ) (
              C.ret (.tuple #[(.slice s22.1.a s22.1.n s22.1.c), (.int .i64 0)])
            )
          ) (
            C.join (TL [.slice]) (embL [.slice]) (fun s36 => C.any fun _ =>
                C.loop (TL [.slice, .slice, (.int .i64)]) (embL [.slice, .slice, (.int .i64)]) [(.slice s16.1.a s16.1.n s16.1.c), (.slice s16.2.1.a s16.2.1.n s16.2.1.c), (.int .i64 0)] fun s37 ct37 => C.any fun _ =>
                cond (decide (s37.2.2 < (s36.n : Int))) (
                  C.join (TL [.bool]) (embL [.bool]) (fun s44 => C.any fun _ =>
                      cond s44 (
                        C.ix s36.a s36.n 32 s37.2.2 fun p103 =>
                        C.ld .agg 32 p103 fun v104 =>
                        C.sem (Instr.buildSlice ty_sl_impl_Key 1 #[(0, (.agg v104))]) .slice fun y105 =>
                        C.sem (Builtin.append_ #[ty_sl_impl_Key, ty_sl_impl_Key] ty_sl_impl_Key #[(.slice s37.1.a s37.1.n s37.1.c), (.slice y105.a y105.n y105.c)]) .slice fun y106 =>
                        C.sem (Instr.buildSlice ty_sl_int 1 #[(0, (.int .i64 s16.2.2))]) .slice fun y109 =>
                        C.sem (Builtin.append_ #[ty_sl_int, ty_sl_int] ty_sl_int #[(.slice s37.2.1.a s37.2.1.n s37.2.1.c), (.slice y109.a y109.n y109.c)]) .slice fun y110 =>
                        ct37 [(.slice y106.a y106.n y106.c), (.slice y110.a y110.n y110.c), (.int .i64 (IntKind.wrap .i64 (s37.2.2 + 1)))]
                      ) (
                        ct37 [(.slice s37.1.a s37.1.n s37.1.c), (.slice s37.2.1.a s37.2.1.n s37.2.1.c), (.int .i64 (IntKind.wrap .i64 (s37.2.2 + 1)))]
                      )
                    ) fun jt =>
                  C.ix s36.a s36.n 32 s37.2.2 fun p87 =>
                  C.ld .agg 32 p87 fun v88 =>
                  C.call n_ptr_spec_l05Store_find [(.pointer r18.1), (.agg v88)] [(.int .i64)] fun r89 =>
                  cond (decide (r89 ≥ 0)) (
                    C.ix s36.a s36.n 32 s37.2.2 fun p95 =>
                    C.ld .agg 32 p95 fun v96 =>
                    C.call n_spec_l01Has [(.slice s37.1.a s37.1.n s37.1.c), (.agg v96)] [.bool] fun r97 =>
                    jt [(.bool (!r97))]
                  ) (
                    jt [(.bool false)]
                  )
                ) (
                  ct16 [(.slice s37.1.a s37.1.n s37.1.c), (.slice s37.2.1.a s37.2.1.n s37.2.1.c), (.int .i64 (IntKind.wrap .i64 (s16.2.2 + 1)))]
                )
              ) fun jt =>
            C.draw <|
            dpT C r18.1 fun a29 =>
            C.ld .slice 1 (a29.add 0) fun v69 =>
            C.ix s16.1.a s16.1.n 32 s16.2.2 fun p73 =>
            C.ld .agg 32 p73 fun v74 =>
            C.call n_ptr_spec_l05Store_find [(.pointer r18.1), (.agg v74)] [(.int .i64)] fun r75 =>
            C.chk [⟨3, 1, (a29.add 0), .slice, v69⟩] <|
            C.ix v69.a v69.n 2 r75 fun p76 =>
            C.call n_spec_l05Links [(.pointer (some p76))] [.slice] fun r77 =>
            C.chk [⟨3, 1, (a29.add 0), .slice, v69⟩] <|
            jt [(.slice r77.a r77.n r77.c)]
          )
        ) (
          C.sem (Instr.buildSlice ty_sl_impl_Key 0 #[]) .slice fun y111 =>
          C.ret (.tuple #[(.slice y111.a y111.n y111.c), (.int .i64 6)])
        )
      ) fun jt =>
    C.ld .agg 32 (Addr.mk b4 0 none) fun v25 =>
    C.call n_ptr_spec_l05Store_find [(.pointer r18.1), (.agg v25)] [(.int .i64)] fun r26 =>
    cond (decide (r26 < 0)) (
      C.sem (Instr.buildSlice ty_sl_impl_Key 0 #[]) .slice fun y34 =>
      C.ret (.tuple #[(.slice y34.a y34.n y34.c), (.int .i64 6)])
    ) (
      C.ld .agg 32 (Addr.mk b5 0 none) fun v30 =>
      C.call n_ptr_spec_l05Store_find [(.pointer r18.1), (.agg v30)] [(.int .i64)] fun r31 =>
      cond (decide (r31 < 0)) (
        C.sem (Instr.buildSlice ty_sl_impl_Key 0 #[]) .slice fun y34 =>
        C.ret (.tuple #[(.slice y34.a y34.n y34.c), (.int .i64 6)])
      ) (
        jt []
      )
    )
  )
theorem spec_LinkPath_eq (C : Comb) (x0 : Array Value) (x1 : Array Value) (x2 : Array Value) : fT C Tryz.prog { loop := [(9, [(10, .slice), (11, .slice), (12, (.int .i64))]), (14, [(13, .slice), (14, (.int .i64))]), (20, [(10, .slice), (11, .slice), (16, (.int .i64))])], join := [(99, []), (55, [(15, .slice)]), (67, [(99, .bool)])], anyOrder := [18], pure := [] } n_spec_LinkPath [(.agg x0), (.agg x1), (.agg x2)] = spec_LinkPath C x0 x1 x2 := by kernel_rfl
theorem spec_LinkPath_calls {R : Value → World → Prop} {w : World} (x0 : Array Value) (x1 : Array Value) (x2 : Array Value) (h : (spec_LinkPath (real Tryz.prog R) x0 x1 x2 : World → Prop) w) :
    Calls Tryz.prog n_spec_LinkPath [(.agg x0), (.agg x1), (.agg x2)].toArray w fun e w' => ∃ v, e = .returned v ∧ R v w' := fT_sound mixed { loop := [(9, [(10, .slice), (11, .slice), (12, (.int .i64))]), (14, [(13, .slice), (14, (.int .i64))]), (20, [(10, .slice), (11, .slice), (16, (.int .i64))])], join := [(99, []), (55, [(15, .slice)]), (67, [(99, .bool)])], anyOrder := [18], pure := [] } (by rw [spec_LinkPath_eq]; exact h)

/-- laws.toStore (12) -/
def laws_toStore (C : Comb) (x0 : Array Value) : C.St :=
  C.new ty_laws_Store (.agg x0) fun b1 =>
  C.new ty_impl_Store (.agg (#[(.slice none 0 0)])) fun b2 =>
  C.new ty_impl_Store (.agg (#[(.slice none 0 0)])) fun b3 =>
  C.ld .slice 1 ((Addr.mk b1 0 none).add 0) fun v5 =>
  C.call n_laws_toBlobS [(.slice v5.a v5.n v5.c)] [.slice] fun r6 =>
  C.st 1 ((Addr.mk b3 0 none).add 0) (.slice r6.a r6.n r6.c) <|
  C.ld .agg 1 (Addr.mk b3 0 none) fun v8 =>
  C.st 1 (Addr.mk b2 0 none) (.agg v8) <|
  C.ld .agg 1 (Addr.mk b2 0 none) fun z7 =>
  C.ret (.agg z7)
theorem laws_toStore_eq (C : Comb) (x0 : Array Value) : fT C Tryz.prog { loop := [], join := [], anyOrder := [], pure := [] } n_laws_toStore [(.agg x0)] = laws_toStore C x0 := by kernel_rfl
theorem laws_toStore_calls {R : Value → World → Prop} {w : World} (x0 : Array Value) (h : (laws_toStore (real Tryz.prog R) x0 : World → Prop) w) :
    Calls Tryz.prog n_laws_toStore [(.agg x0)].toArray w fun e w' => ∃ v, e = .returned v ∧ R v w' := fT_sound mixed { loop := [], join := [], anyOrder := [], pure := [] } (by rw [laws_toStore_eq]; exact h)

/-- laws.toKey (13) -/
def laws_toKey (C : Comb) (x0 : Array Value) : C.St :=
  C.new ty_arr32_uint8 (.agg x0) fun b1 =>
  C.new ty_impl_Key (.agg (Array.replicate 32 (.int .u8 0))) fun b2 =>
  C.new ty_impl_Key (.agg (Array.replicate 32 (.int .u8 0))) fun b3 =>
  C.loop (TL [(.int .i64)]) (embL [(.int .i64)]) [(.int .i64 0)] fun s4 ct4 => C.any fun _ =>
  cond (decide (s4 < 32)) (
    C.ix (some (Addr.mk b1 0 none)) 32 1 s4 fun p11 =>
    C.ld (.int .u8) 1 p11 fun v12 =>
    C.ix (some (Addr.mk b3 0 none)) 32 1 s4 fun p13 =>
    C.st 1 p13 (.int .u8 v12) <|
    ct4 [(.int .i64 (IntKind.wrap .i64 (s4 + 1)))]
  ) (
    C.ld .agg 32 (Addr.mk b3 0 none) fun v14 =>
    C.st 32 (Addr.mk b2 0 none) (.agg v14) <|
    C.ld .agg 32 (Addr.mk b2 0 none) fun z9 =>
    C.ret (.agg z9)
  )
theorem laws_toKey_eq (C : Comb) (x0 : Array Value) : fT C Tryz.prog { loop := [(3, [(4, (.int .i64))])], join := [], anyOrder := [], pure := [] } n_laws_toKey [(.agg x0)] = laws_toKey C x0 := by kernel_rfl
theorem laws_toKey_calls {R : Value → World → Prop} {w : World} (x0 : Array Value) (h : (laws_toKey (real Tryz.prog R) x0 : World → Prop) w) :
    Calls Tryz.prog n_laws_toKey [(.agg x0)].toArray w fun e w' => ∃ v, e = .returned v ∧ R v w' := fT_sound mixed { loop := [(3, [(4, (.int .i64))])], join := [], anyOrder := [], pure := [] } (by rw [laws_toKey_eq]; exact h)

/-- impl.LinkPath (14) -/
def impl_LinkPath (C : Comb) (x0 : Array Value) (x1 : Array Value) (x2 : Array Value) : C.St :=
  C.new ty_impl_Store (.agg x0) fun b3 =>
  C.new ty_impl_Key (.agg x1) fun b4 =>
  C.new ty_impl_Key (.agg x2) fun b5 =>
  C.ld .agg 1 (Addr.mk b3 0 none) fun v23 =>
  C.call n_impl_newShop [(.agg v23)] [.optr, .bool] fun r24 =>
  C.join (TL []) (embL []) (fun s10 => C.any fun _ =>
      C.join (TL [.val, .slice]) (embL [.val, .slice]) (fun s19 => C.any fun _ =>
          C.loop (TL [.slice, (.int .i64)]) (embL [.slice, (.int .i64)]) [(.slice s19.2.a s19.2.n s19.2.c), (.int .i64 0)] fun s20 ct20 => C.any fun _ =>
          cond (decide (s20.2 < (s20.1.n : Int))) (
            C.ix s20.1.a s20.1.n 32 s20.2 fun p57 =>
            C.ld .agg 32 p57 fun v58 =>
            C.call n_ptr_impl_shop_get [(.pointer r24.1), (.agg v58)] [.agg, .bool] fun r59 =>
            C.new ty_impl_Blob (.agg (#[(.int .u8 0), (.slice none 0 0)])) fun b13 =>
            C.st 2 (Addr.mk b13 0 none) (.agg r59.1) <|
            C.ld .agg 2 (Addr.mk b13 0 none) fun v62 =>
            C.call n_impl_Blob_links [(.agg v62)] [.slice] fun r63 =>
            C.loop (TL [.slice, (.int .i64)]) (embL [.slice, (.int .i64)]) [(.slice s20.1.a s20.1.n s20.1.c), (.int .i64 0)] fun s27 ct27 => C.any fun _ =>
            cond (decide (s27.2 < (r63.n : Int))) (
              C.ix r63.a r63.n 32 s27.2 fun p67 =>
              C.ld .agg 32 p67 fun v68 =>
              C.new ty_impl_Key (.agg (Array.replicate 32 (.int .u8 0))) fun b16 =>
              C.st 32 (Addr.mk b16 0 none) (.agg v68) <|
              C.ld .agg 32 (Addr.mk b16 0 none) fun v71 =>
              C.semL (Instr.lookup ty_map_impl_Key_impl_Key s19.1 (.agg v71) true) [.agg, .bool] fun y72 =>
              C.new ty_impl_Key (.agg (Array.replicate 32 (.int .u8 0))) fun b17 =>
              C.st 32 (Addr.mk b17 0 none) (.agg y72.1) <|
              C.join (TL [.bool]) (embL [.bool]) (fun s36 => C.any fun _ =>
                  cond s36 (
                    C.draw <|
                    C.ld .agg 32 (Addr.mk b16 0 none) fun v83 =>
                    C.ix s27.1.a s27.1.n 32 s20.2 fun p86 =>
                    C.ld .agg 32 p86 fun v87 =>
                    C.eff (Instr.mapUpdate ty_map_impl_Key_impl_Key s19.1 (.agg v83) (.agg v87)) <|
                    C.ld .agg 32 (Addr.mk b16 0 none) fun v89 =>
                    C.sem (Instr.buildSlice ty_sl_impl_Key 1 #[(0, (.agg v89))]) .slice fun y90 =>
                    C.sem (Builtin.append_ #[ty_sl_impl_Key, ty_sl_impl_Key] ty_sl_impl_Key #[(.slice s27.1.a s27.1.n s27.1.c), (.slice y90.a y90.n y90.c)]) .slice fun y91 =>
                    ct27 [(.slice y91.a y91.n y91.c), (.int .i64 (IntKind.wrap .i64 (s27.2 + 1)))]
                  ) (
                    ct27 [(.slice s27.1.a s27.1.n s27.1.c), (.int .i64 (IntKind.wrap .i64 (s27.2 + 1)))]
                  )
                ) fun jt =>
              cond (!y72.2) (
                C.ld .agg 32 (Addr.mk b16 0 none) fun v79 =>
                C.call n_ptr_impl_shop_has [(.pointer r24.1), (.agg v79)] [.bool] fun r80 =>
                jt [(.bool r80)]
              ) (
                jt [(.bool false)]
              )
            ) (
              ct20 [(.slice s27.1.a s27.1.n s27.1.c), (.int .i64 (IntKind.wrap .i64 (s20.2 + 1)))]
            )
          ) (
            C.ld .agg 32 (Addr.mk b5 0 none) fun v95 =>
            C.semL (Instr.lookup ty_map_impl_Key_impl_Key s19.1 (.agg v95) true) [.agg, .bool] fun y96 =>
            C.new ty_impl_Key (.agg (Array.replicate 32 (.int .u8 0))) fun b19 =>
            C.st 32 (Addr.mk b19 0 none) (.agg y96.1) <|
            cond (!y96.2) (
              C.ret (.tuple #[(.slice none 0 0), (.int .i64 6)])
            ) (
              C.ld .agg 32 (Addr.mk b5 0 none) fun v101 =>
              C.sem (Instr.buildSlice ty_sl_impl_Key 1 #[(0, (.agg v101))]) .slice fun y102 =>
              C.loop (TL [.slice]) (embL [.slice]) [(.slice y102.a y102.n y102.c)] fun s48 ct48 => C.any fun _ =>
              C.ld .agg 32 (Addr.mk b5 0 none) fun v103 =>
              C.ld .agg 32 (Addr.mk b4 0 none) fun v104 =>
              C.pur (eqB .neq ty_impl_Key (.tmp 103) (.tmp 104) (.agg v103) (.agg v104)) .bool fun y105 =>
              cond y105 (
                C.ld .agg 32 (Addr.mk b5 0 none) fun v107 =>
                C.semL (Instr.lookup ty_map_impl_Key_impl_Key s19.1 (.agg v107) false) [.agg] fun y108 =>
                C.st 32 (Addr.mk b5 0 none) (.agg y108) <|
                C.ld .agg 32 (Addr.mk b5 0 none) fun v110 =>
                C.sem (Instr.buildSlice ty_sl_impl_Key 1 #[(0, (.agg v110))]) .slice fun y111 =>
                C.sem (Builtin.append_ #[ty_sl_impl_Key, ty_sl_impl_Key] ty_sl_impl_Key #[(.slice s48.a s48.n s48.c), (.slice y111.a y111.n y111.c)]) .slice fun y112 =>
                ct48 [(.slice y112.a y112.n y112.c)]
              ) (
                C.call n_slices_Reverse_sl_impl_Key_impl_Key [(.slice s48.a s48.n s48.c)] [] fun r114 =>
                C.ret (.tuple #[(.slice s48.a s48.n s48.c), (.int .i64 0)])
              )
            )
          )
        ) fun jt =>
      C.draw <|
      C.ld .agg 32 (Addr.mk b4 0 none) fun v42 =>
      C.ld .agg 32 (Addr.mk b4 0 none) fun v43 =>
      C.ld .agg 32 (Addr.mk b4 0 none) fun v45 =>
      C.all [
        (C.sem (Instr.makeMap ty_map_impl_Key_impl_Key none) .val fun y41 =>
         C.chk [⟨5, 32, (Addr.mk b4 0 none), .agg, v45⟩, ⟨2, 32, (Addr.mk b4 0 none), .agg, v43⟩, ⟨1, 32, (Addr.mk b4 0 none), .agg, v42⟩] <|
         C.all [
           (C.eff (Instr.mapUpdate ty_map_impl_Key_impl_Key y41 (.agg v42) (.agg v43)) <|
            C.chk [⟨5, 32, (Addr.mk b4 0 none), .agg, v45⟩] <|
            C.sem (Instr.buildSlice ty_sl_impl_Key 1 #[(0, (.agg v45))]) .slice fun y46 =>
            jt [y41, (.slice y46.a y46.n y46.c)]),
           (C.sem (Instr.buildSlice ty_sl_impl_Key 1 #[(0, (.agg v45))]) .slice fun y46 =>
            C.chk [⟨2, 32, (Addr.mk b4 0 none), .agg, v43⟩, ⟨1, 32, (Addr.mk b4 0 none), .agg, v42⟩] <|
            C.eff (Instr.mapUpdate ty_map_impl_Key_impl_Key y41 (.agg v42) (.agg v43)) <|
            jt [y41, (.slice y46.a y46.n y46.c)])]),
        (C.sem (Instr.buildSlice ty_sl_impl_Key 1 #[(0, (.agg v45))]) .slice fun y46 =>
         C.chk [⟨2, 32, (Addr.mk b4 0 none), .agg, v43⟩, ⟨1, 32, (Addr.mk b4 0 none), .agg, v42⟩] <|
         C.sem (Instr.makeMap ty_map_impl_Key_impl_Key none) .val fun y41 =>
         C.chk [⟨2, 32, (Addr.mk b4 0 none), .agg, v43⟩, ⟨1, 32, (Addr.mk b4 0 none), .agg, v42⟩] <|
         C.eff (Instr.mapUpdate ty_map_impl_Key_impl_Key y41 (.agg v42) (.agg v43)) <|
         jt [y41, (.slice y46.a y46.n y46.c)])]
    ) fun jt =>
  cond (!r24.2) (
    C.ret (.tuple #[(.slice none 0 0), (.int .i64 1)])
  ) (
    C.ld .agg 32 (Addr.mk b4 0 none) fun v32 =>
    C.call n_ptr_impl_shop_has [(.pointer r24.1), (.agg v32)] [.bool] fun r33 =>
    cond (!r33) (
      C.ret (.tuple #[(.slice none 0 0), (.int .i64 6)])
    ) (
      C.ld .agg 32 (Addr.mk b5 0 none) fun v37 =>
      C.call n_ptr_impl_shop_has [(.pointer r24.1), (.agg v37)] [.bool] fun r38 =>
      cond (!r38) (
        C.ret (.tuple #[(.slice none 0 0), (.int .i64 6)])
      ) (
        jt []
      )
    )
  )
theorem impl_LinkPath_eq (C : Comb) (x0 : Array Value) (x1 : Array Value) (x2 : Array Value) : fT C Tryz.prog { loop := [(8, [(11, .slice), (12, (.int .i64))]), (12, [(11, .slice), (65, (.int .i64))]), (23, [(21, .slice)])], join := [(8, []), (19, [(10, .val), (11, .slice)]), (46, [(81, .bool)])], anyOrder := [6, 16], pure := [] } n_impl_LinkPath [(.agg x0), (.agg x1), (.agg x2)] = impl_LinkPath C x0 x1 x2 := by kernel_rfl
theorem impl_LinkPath_calls {R : Value → World → Prop} {w : World} (x0 : Array Value) (x1 : Array Value) (x2 : Array Value) (h : (impl_LinkPath (real Tryz.prog R) x0 x1 x2 : World → Prop) w) :
    Calls Tryz.prog n_impl_LinkPath [(.agg x0), (.agg x1), (.agg x2)].toArray w fun e w' => ∃ v, e = .returned v ∧ R v w' := fT_sound mixed { loop := [(8, [(11, .slice), (12, (.int .i64))]), (12, [(11, .slice), (65, (.int .i64))]), (23, [(21, .slice)])], join := [(8, []), (19, [(10, .val), (11, .slice)]), (46, [(81, .bool)])], anyOrder := [6, 16], pure := [] } (by rw [impl_LinkPath_eq]; exact h)

/-- laws.eqKeyS (15) -/
def laws_eqKeyS (C : Comb) (x0 : Sl) (x1 : Sl) : C.St :=
  cond ((x0.n : Int) != (x1.n : Int)) (
    C.ret (.bool false)
  ) (
    C.loop (TL [(.int .i64)]) (embL [(.int .i64)]) [(.int .i64 0)] fun s1 ct1 => C.any fun _ =>
    cond (decide (s1 < (x0.n : Int))) (
      C.draw <|
      C.ix x0.a x0.n 32 s1 fun p19 =>
      C.ld .agg 32 p19 fun v20 =>
      C.ix x1.a x1.n 32 s1 fun p23 =>
      C.ld .agg 32 p23 fun v24 =>
      C.call n_laws_eqKey [(.agg v20), (.agg v24)] [.bool] fun r25 =>
      cond (!r25) (
        C.ret (.bool false)
      ) (
        ct1 [(.int .i64 (IntKind.wrap .i64 (s1 + 1)))]
      )
    ) (
      C.ret (.bool true)
    )
  )
theorem laws_eqKeyS_eq (C : Comb) (x0 : Sl) (x1 : Sl) : fT C Tryz.prog { loop := [(4, [(5, (.int .i64))])], join := [], anyOrder := [6], pure := [] } n_laws_eqKeyS [(.slice x0.a x0.n x0.c), (.slice x1.a x1.n x1.c)] = laws_eqKeyS C x0 x1 := by kernel_rfl
theorem laws_eqKeyS_calls {R : Value → World → Prop} {w : World} (x0 : Sl) (x1 : Sl) (h : (laws_eqKeyS (real Tryz.prog R) x0 x1 : World → Prop) w) :
    Calls Tryz.prog n_laws_eqKeyS [(.slice x0.a x0.n x0.c), (.slice x1.a x1.n x1.c)].toArray w fun e w' => ∃ v, e = .returned v ∧ R v w' := fT_sound mixed { loop := [(4, [(5, (.int .i64))])], join := [], anyOrder := [6], pure := [] } (by rw [laws_eqKeyS_eq]; exact h)

/-- laws.eqStore (16) -/
def laws_eqStore (C : Comb) (x0 : Array Value) (x1 : Array Value) : C.St :=
  C.new ty_impl_Store (.agg x0) fun b2 =>
  C.new ty_impl_Store (.agg x1) fun b3 =>
  C.ld .slice 1 ((Addr.mk b2 0 none).add 0) fun v6 =>
  C.ld .slice 1 ((Addr.mk b3 0 none).add 0) fun v8 =>
  C.call n_laws_eqBlobS [(.slice v6.a v6.n v6.c), (.slice v8.a v8.n v8.c)] [.bool] fun r9 =>
  cond (!r9) (
    C.ret (.bool false)
  ) (
    C.ret (.bool true)
  )
theorem laws_eqStore_eq (C : Comb) (x0 : Array Value) (x1 : Array Value) : fT C Tryz.prog { loop := [], join := [], anyOrder := [], pure := [] } n_laws_eqStore [(.agg x0), (.agg x1)] = laws_eqStore C x0 x1 := by kernel_rfl
theorem laws_eqStore_calls {R : Value → World → Prop} {w : World} (x0 : Array Value) (x1 : Array Value) (h : (laws_eqStore (real Tryz.prog R) x0 x1 : World → Prop) w) :
    Calls Tryz.prog n_laws_eqStore [(.agg x0), (.agg x1)].toArray w fun e w' => ∃ v, e = .returned v ∧ R v w' := fT_sound mixed { loop := [], join := [], anyOrder := [], pure := [] } (by rw [laws_eqStore_eq]; exact h)

/-- laws.markStore (17) -/
def laws_markStore (C : Comb) (x0 : Array Value) (x1 : Int) : C.St :=
  C.new ty_impl_Store (.agg x0) fun b2 =>
  C.ld .slice 1 ((Addr.mk b2 0 none).add 0) fun v6 =>
  C.call n_laws_markBlobS [(.slice v6.a v6.n v6.c), (.int .i64 x1)] [(.int .i64)] fun r8 =>
  C.ret (.int .i64 r8)
theorem laws_markStore_eq (C : Comb) (x0 : Array Value) (x1 : Int) : fT C Tryz.prog { loop := [], join := [], anyOrder := [], pure := [] } n_laws_markStore [(.agg x0), (.int .i64 x1)] = laws_markStore C x0 x1 := by kernel_rfl
theorem laws_markStore_calls {R : Value → World → Prop} {w : World} (x0 : Array Value) (x1 : Int) (h : (laws_markStore (real Tryz.prog R) x0 x1 : World → Prop) w) :
    Calls Tryz.prog n_laws_markStore [(.agg x0), (.int .i64 x1)].toArray w fun e w' => ∃ v, e = .returned v ∧ R v w' := fT_sound mixed { loop := [], join := [], anyOrder := [], pure := [] } (by rw [laws_markStore_eq]; exact h)

/-- laws.markKeyS (18) -/
def laws_markKeyS (C : Comb) (x0 : Sl) (x1 : Int) : C.St :=
  C.loop (TL [(.int .i64), (.int .i64)]) (embL [(.int .i64), (.int .i64)]) [(.int .i64 x1), (.int .i64 0)] fun s1 ct1 => C.any fun _ =>
  cond (decide (s1.2 < (x0.n : Int))) (
    C.loop (TL [(.int .i64), (.int .i64)]) (embL [(.int .i64), (.int .i64)]) [(.int .i64 s1.1), (.int .i64 0)] fun s2 ct2 => C.any fun _ =>
    cond (decide (s2.2 < 32)) (
      C.ix x0.a x0.n 32 s1.2 fun p22 =>
      C.ix (some p22) 32 1 s2.2 fun p23 =>
      C.st 1 p23 (.int .u8 (IntKind.wrap .u8 (s2.1))) <|
      ct2 [(.int .i64 (IntKind.wrap .i64 (s2.1 + 1))), (.int .i64 (IntKind.wrap .i64 (s2.2 + 1)))]
    ) (
      ct1 [(.int .i64 s2.1), (.int .i64 (IntKind.wrap .i64 (s1.2 + 1)))]
    )
  ) (
    C.ret (.int .i64 s1.1)
  )
theorem laws_markKeyS_eq (C : Comb) (x0 : Sl) (x1 : Int) : fT C Tryz.prog { loop := [(2, [(1, (.int .i64)), (5, (.int .i64))]), (5, [(1, (.int .i64)), (6, (.int .i64))])], join := [], anyOrder := [], pure := [] } n_laws_markKeyS [(.slice x0.a x0.n x0.c), (.int .i64 x1)] = laws_markKeyS C x0 x1 := by kernel_rfl
theorem laws_markKeyS_calls {R : Value → World → Prop} {w : World} (x0 : Sl) (x1 : Int) (h : (laws_markKeyS (real Tryz.prog R) x0 x1 : World → Prop) w) :
    Calls Tryz.prog n_laws_markKeyS [(.slice x0.a x0.n x0.c), (.int .i64 x1)].toArray w fun e w' => ∃ v, e = .returned v ∧ R v w' := fT_sound mixed { loop := [(2, [(1, (.int .i64)), (5, (.int .i64))]), (5, [(1, (.int .i64)), (6, (.int .i64))])], join := [], anyOrder := [], pure := [] } (by rw [laws_markKeyS_eq]; exact h)

/-- laws.heldKeyS (19) -/
def laws_heldKeyS (C : Comb) (x0 : Sl) (x1 : Int) : C.St :=
  C.loop (TL [(.int .i64), (.int .i64)]) (embL [(.int .i64), (.int .i64)]) [(.int .i64 x1), (.int .i64 0)] fun s1 ct1 => C.any fun _ =>
  cond (decide (s1.2 < (x0.n : Int))) (
    C.loop (TL [(.int .i64), (.int .i64)]) (embL [(.int .i64), (.int .i64)]) [(.int .i64 s1.1), (.int .i64 0)] fun s2 ct2 => C.any fun _ =>
    cond (decide (s2.2 < 32)) (
      C.ix x0.a x0.n 32 s1.2 fun p20 =>
      C.ix (some p20) 32 1 s2.2 fun p21 =>
      C.ld (.int .u8) 1 p21 fun v22 =>
      cond (v22 != (IntKind.wrap .u8 (s2.1))) (
        C.ret (.int .i64 (-1))
      ) (
        ct2 [(.int .i64 (IntKind.wrap .i64 (s2.1 + 1))), (.int .i64 (IntKind.wrap .i64 (s2.2 + 1)))]
      )
    ) (
      ct1 [(.int .i64 s2.1), (.int .i64 (IntKind.wrap .i64 (s1.2 + 1)))]
    )
  ) (
    C.ret (.int .i64 s1.1)
  )
theorem laws_heldKeyS_eq (C : Comb) (x0 : Sl) (x1 : Int) : fT C Tryz.prog { loop := [(2, [(1, (.int .i64)), (5, (.int .i64))]), (5, [(1, (.int .i64)), (6, (.int .i64))])], join := [], anyOrder := [], pure := [] } n_laws_heldKeyS [(.slice x0.a x0.n x0.c), (.int .i64 x1)] = laws_heldKeyS C x0 x1 := by kernel_rfl
theorem laws_heldKeyS_calls {R : Value → World → Prop} {w : World} (x0 : Sl) (x1 : Int) (h : (laws_heldKeyS (real Tryz.prog R) x0 x1 : World → Prop) w) :
    Calls Tryz.prog n_laws_heldKeyS [(.slice x0.a x0.n x0.c), (.int .i64 x1)].toArray w fun e w' => ∃ v, e = .returned v ∧ R v w' := fT_sound mixed { loop := [(2, [(1, (.int .i64)), (5, (.int .i64))]), (5, [(1, (.int .i64)), (6, (.int .i64))])], join := [], anyOrder := [], pure := [] } (by rw [laws_heldKeyS_eq]; exact h)

/-- laws.szKeyS (20) -/
def laws_szKeyS (C : Comb) (x0 : Sl) (x1 : Int) : C.St :=
  cond (decide ((IntKind.wrap .i64 (x1 - (x0.n : Int))) < 0)) (
    C.ret (.int .i64 (-1))
  ) (
    C.ret (.int .i64 (IntKind.wrap .i64 (x1 - (x0.n : Int))))
  )
theorem laws_szKeyS_eq (C : Comb) (x0 : Sl) (x1 : Int) : fT C Tryz.prog { loop := [], join := [], anyOrder := [], pure := [] } n_laws_szKeyS [(.slice x0.a x0.n x0.c), (.int .i64 x1)] = laws_szKeyS C x0 x1 := by kernel_rfl
theorem laws_szKeyS_calls {R : Value → World → Prop} {w : World} (x0 : Sl) (x1 : Int) (h : (laws_szKeyS (real Tryz.prog R) x0 x1 : World → Prop) w) :
    Calls Tryz.prog n_laws_szKeyS [(.slice x0.a x0.n x0.c), (.int .i64 x1)].toArray w fun e w' => ∃ v, e = .returned v ∧ R v w' := fT_sound mixed { loop := [], join := [], anyOrder := [], pure := [] } (by rw [laws_szKeyS_eq]; exact h)

/-- spec.ReachableFrom (21) -/
def spec_ReachableFrom (C : Comb) (x0 : Array Value) (x1 : Sl) : C.St :=
  C.new ty_impl_Store (.agg x0) fun b2 =>
  C.call n_spec_l05Asked [(.pointer (some (Addr.mk b2 0 none))), (.slice x1.a x1.n x1.c)] [.optr, (.int .i64)] fun r12 =>
  cond (r12.2 != 0) (
    C.sem (Instr.buildSlice ty_sl_impl_Key 0 #[]) .slice fun y17 =>
    C.ret (.tuple #[(.slice y17.a y17.n y17.c), (.int .i64 r12.2)])
  ) (
    C.call n_ptr_spec_l05Store_reach [(.pointer r12.1), (.slice x1.a x1.n x1.c)] [.slice, .slice] fun r22 =>
    C.call n_ptr_spec_l05Store_keep [(.pointer r12.1), (.slice r22.1.a r22.1.n r22.1.c)] [.ptr] fun r27 =>
    C.ld .slice 1 (r27.add 1) fun v30 =>
    C.ret (.tuple #[(.slice v30.a v30.n v30.c), (.int .i64 0)])
  )
theorem spec_ReachableFrom_eq (C : Comb) (x0 : Array Value) (x1 : Sl) : fT C Tryz.prog { loop := [], join := [], anyOrder := [], pure := [] } n_spec_ReachableFrom [(.agg x0), (.slice x1.a x1.n x1.c)] = spec_ReachableFrom C x0 x1 := by kernel_rfl
theorem spec_ReachableFrom_calls {R : Value → World → Prop} {w : World} (x0 : Array Value) (x1 : Sl) (h : (spec_ReachableFrom (real Tryz.prog R) x0 x1 : World → Prop) w) :
    Calls Tryz.prog n_spec_ReachableFrom [(.agg x0), (.slice x1.a x1.n x1.c)].toArray w fun e w' => ∃ v, e = .returned v ∧ R v w' := fT_sound mixed { loop := [], join := [], anyOrder := [], pure := [] } (by rw [spec_ReachableFrom_eq]; exact h)

/-- laws.toKeyS (22) -/
def laws_toKeyS (C : Comb) (x0 : Sl) : C.St :=
  C.sem (Instr.makeSlice ty_sl_impl_Key (.int .i64 (x0.n : Int)) (.int .i64 (x0.n : Int))) .slice fun y7 =>
  C.loop (TL [(.int .i64)]) (embL [(.int .i64)]) [(.int .i64 0)] fun s2 ct2 => C.any fun _ =>
  cond (decide (s2 < (x0.n : Int))) (
    C.ix x0.a x0.n 32 s2 fun p18 =>
    C.ld .agg 32 p18 fun v19 =>
    C.call n_laws_toKey [(.agg v19)] [.agg] fun r20 =>
    C.ix y7.a y7.n 32 s2 fun p21 =>
    C.st 32 p21 (.agg r20) <|
    ct2 [(.int .i64 (IntKind.wrap .i64 (s2 + 1)))]
  ) (
    C.ret (.slice y7.a y7.n y7.c)
  )
theorem laws_toKeyS_eq (C : Comb) (x0 : Sl) : fT C Tryz.prog { loop := [(3, [(4, (.int .i64))])], join := [], anyOrder := [], pure := [] } n_laws_toKeyS [(.slice x0.a x0.n x0.c)] = laws_toKeyS C x0 := by kernel_rfl
theorem laws_toKeyS_calls {R : Value → World → Prop} {w : World} (x0 : Sl) (h : (laws_toKeyS (real Tryz.prog R) x0 : World → Prop) w) :
    Calls Tryz.prog n_laws_toKeyS [(.slice x0.a x0.n x0.c)].toArray w fun e w' => ∃ v, e = .returned v ∧ R v w' := fT_sound mixed { loop := [(3, [(4, (.int .i64))])], join := [], anyOrder := [], pure := [] } (by rw [laws_toKeyS_eq]; exact h)

/-- impl.ReachableFrom (23) -/
def impl_ReachableFrom (C : Comb) (x0 : Array Value) (x1 : Sl) : C.St :=
  C.new ty_impl_Store (.agg x0) fun b2 =>
  C.ld .agg 1 (Addr.mk b2 0 none) fun v9 =>
  C.sem (Instr.buildSlice ty_sl_sl_impl_Key 1 #[(0, (.slice x1.a x1.n x1.c))]) .slice fun y11 =>
  C.call n_impl_reachCode [(.agg v9), (.slice y11.a y11.n y11.c)] [.optr, (.int .i64)] fun r12 =>
  cond (r12.2 != 0) (
    C.ret (.tuple #[(.slice none 0 0), (.int .i64 r12.2)])
  ) (
    C.call n_ptr_impl_shop_reached [(.pointer r12.1), (.slice x1.a x1.n x1.c), (.bool true)] [.slice] fun r20 =>
    C.ret (.tuple #[(.slice r20.a r20.n r20.c), (.int .i64 0)])
  )
theorem impl_ReachableFrom_eq (C : Comb) (x0 : Array Value) (x1 : Sl) : fT C Tryz.prog { loop := [], join := [], anyOrder := [], pure := [] } n_impl_ReachableFrom [(.agg x0), (.slice x1.a x1.n x1.c)] = impl_ReachableFrom C x0 x1 := by kernel_rfl
theorem impl_ReachableFrom_calls {R : Value → World → Prop} {w : World} (x0 : Array Value) (x1 : Sl) (h : (impl_ReachableFrom (real Tryz.prog R) x0 x1 : World → Prop) w) :
    Calls Tryz.prog n_impl_ReachableFrom [(.agg x0), (.slice x1.a x1.n x1.c)].toArray w fun e w' => ∃ v, e = .returned v ∧ R v w' := fT_sound mixed { loop := [], join := [], anyOrder := [], pure := [] } (by rw [impl_ReachableFrom_eq]; exact h)

/-- spec.MissingFrom (24) -/
def spec_MissingFrom (C : Comb) (x0 : Array Value) (x1 : Sl) : C.St :=
  C.new ty_impl_Store (.agg x0) fun b2 =>
  C.call n_spec_l05Asked [(.pointer (some (Addr.mk b2 0 none))), (.slice x1.a x1.n x1.c)] [.optr, (.int .i64)] fun r12 =>
  cond (r12.2 != 0) (
    C.sem (Instr.buildSlice ty_sl_impl_Key 0 #[]) .slice fun y17 =>
    C.ret (.tuple #[(.slice y17.a y17.n y17.c), (.int .i64 r12.2)])
  ) (
    C.call n_ptr_spec_l05Store_reach [(.pointer r12.1), (.slice x1.a x1.n x1.c)] [.slice, .slice] fun r22 =>
    C.call n_spec_l05Ascending [(.slice r22.2.a r22.2.n r22.2.c)] [.slice] fun r26 =>
    C.ret (.tuple #[(.slice r26.a r26.n r26.c), (.int .i64 0)])
  )
theorem spec_MissingFrom_eq (C : Comb) (x0 : Array Value) (x1 : Sl) : fT C Tryz.prog { loop := [], join := [], anyOrder := [], pure := [] } n_spec_MissingFrom [(.agg x0), (.slice x1.a x1.n x1.c)] = spec_MissingFrom C x0 x1 := by kernel_rfl
theorem spec_MissingFrom_calls {R : Value → World → Prop} {w : World} (x0 : Array Value) (x1 : Sl) (h : (spec_MissingFrom (real Tryz.prog R) x0 x1 : World → Prop) w) :
    Calls Tryz.prog n_spec_MissingFrom [(.agg x0), (.slice x1.a x1.n x1.c)].toArray w fun e w' => ∃ v, e = .returned v ∧ R v w' := fT_sound mixed { loop := [], join := [], anyOrder := [], pure := [] } (by rw [spec_MissingFrom_eq]; exact h)

/-- impl.MissingFrom (25) -/
def impl_MissingFrom (C : Comb) (x0 : Array Value) (x1 : Sl) : C.St :=
  C.new ty_impl_Store (.agg x0) fun b2 =>
  C.ld .agg 1 (Addr.mk b2 0 none) fun v9 =>
  C.sem (Instr.buildSlice ty_sl_sl_impl_Key 1 #[(0, (.slice x1.a x1.n x1.c))]) .slice fun y11 =>
  C.call n_impl_reachCode [(.agg v9), (.slice y11.a y11.n y11.c)] [.optr, (.int .i64)] fun r12 =>
  cond (r12.2 != 0) (
    C.ret (.tuple #[(.slice none 0 0), (.int .i64 r12.2)])
  ) (
    C.call n_ptr_impl_shop_reached [(.pointer r12.1), (.slice x1.a x1.n x1.c), (.bool false)] [.slice] fun r20 =>
    C.ret (.tuple #[(.slice r20.a r20.n r20.c), (.int .i64 0)])
  )
theorem impl_MissingFrom_eq (C : Comb) (x0 : Array Value) (x1 : Sl) : fT C Tryz.prog { loop := [], join := [], anyOrder := [], pure := [] } n_impl_MissingFrom [(.agg x0), (.slice x1.a x1.n x1.c)] = impl_MissingFrom C x0 x1 := by kernel_rfl
theorem impl_MissingFrom_calls {R : Value → World → Prop} {w : World} (x0 : Array Value) (x1 : Sl) (h : (impl_MissingFrom (real Tryz.prog R) x0 x1 : World → Prop) w) :
    Calls Tryz.prog n_impl_MissingFrom [(.agg x0), (.slice x1.a x1.n x1.c)].toArray w fun e w' => ∃ v, e = .returned v ∧ R v w' := fT_sound mixed { loop := [], join := [], anyOrder := [], pure := [] } (by rw [impl_MissingFrom_eq]; exact h)

/-- laws.szLeaseS (26) -/
def laws_szLeaseS (C : Comb) (x0 : Sl) (x1 : Int) : C.St :=
  cond (decide ((IntKind.wrap .i64 (x1 - (x0.n : Int))) < 0)) (
    C.ret (.int .i64 (-1))
  ) (
    C.ret (.int .i64 (IntKind.wrap .i64 (x1 - (x0.n : Int))))
  )
theorem laws_szLeaseS_eq (C : Comb) (x0 : Sl) (x1 : Int) : fT C Tryz.prog { loop := [], join := [], anyOrder := [], pure := [] } n_laws_szLeaseS [(.slice x0.a x0.n x0.c), (.int .i64 x1)] = laws_szLeaseS C x0 x1 := by kernel_rfl
theorem laws_szLeaseS_calls {R : Value → World → Prop} {w : World} (x0 : Sl) (x1 : Int) (h : (laws_szLeaseS (real Tryz.prog R) x0 x1 : World → Prop) w) :
    Calls Tryz.prog n_laws_szLeaseS [(.slice x0.a x0.n x0.c), (.int .i64 x1)].toArray w fun e w' => ∃ v, e = .returned v ∧ R v w' := fT_sound mixed { loop := [], join := [], anyOrder := [], pure := [] } (by rw [laws_szLeaseS_eq]; exact h)

/-- spec.DeadIn (27) -/
def spec_DeadIn (C : Comb) (x0 : Array Value) (x1 : Sl) (x2 : Sl) (x3 : Int) : C.St :=
  C.new ty_impl_Store (.agg x0) fun b4 =>
  C.call n_spec_l05Needed [(.pointer (some (Addr.mk b4 0 none))), (.slice x1.a x1.n x1.c), (.slice x2.a x2.n x2.c), (.int .i64 x3)] [.optr, .slice, (.int .i64)] fun r19 =>
  cond (r19.2.2 != 0) (
    C.sem (Instr.buildSlice ty_sl_impl_Key 0 #[]) .slice fun y25 =>
    C.ret (.tuple #[(.slice y25.a y25.n y25.c), (.int .i64 r19.2.2)])
  ) (
    C.sem (Instr.buildSlice ty_sl_impl_Key 0 #[]) .slice fun y27 =>
    C.loop (TL [.slice, (.int .i64)]) (embL [.slice, (.int .i64)]) [(.slice y27.a y27.n y27.c), (.int .i64 0)] fun s5 ct5 => C.any fun _ =>
    cond (decide (s5.2 < (r19.2.1.n : Int))) (
      C.ix r19.2.1.a r19.2.1.n 1 s5.2 fun p36 =>
      C.ld .bool 1 p36 fun v37 =>
      cond (!v37) (
        dpT C r19.1 fun a8 =>
        C.ld .slice 1 (a8.add 1) fun v43 =>
        C.ix v43.a v43.n 32 s5.2 fun p45 =>
        C.ld .agg 32 p45 fun v46 =>
        C.sem (Instr.buildSlice ty_sl_impl_Key 1 #[(0, (.agg v46))]) .slice fun y47 =>
        C.sem (Builtin.append_ #[ty_sl_impl_Key, ty_sl_impl_Key] ty_sl_impl_Key #[(.slice s5.1.a s5.1.n s5.1.c), (.slice y47.a y47.n y47.c)]) .slice fun y48 =>
        ct5 [(.slice y48.a y48.n y48.c), (.int .i64 (IntKind.wrap .i64 (s5.2 + 1)))]
      ) (
        ct5 [(.slice s5.1.a s5.1.n s5.1.c), (.int .i64 (IntKind.wrap .i64 (s5.2 + 1)))]
      )
    ) (
      C.ret (.tuple #[(.slice s5.1.a s5.1.n s5.1.c), (.int .i64 0)])
    )
  )
theorem spec_DeadIn_eq (C : Comb) (x0 : Array Value) (x1 : Sl) (x2 : Sl) (x3 : Int) : fT C Tryz.prog { loop := [(6, [(13, .slice), (14, (.int .i64))])], join := [], anyOrder := [], pure := [] } n_spec_DeadIn [(.agg x0), (.slice x1.a x1.n x1.c), (.slice x2.a x2.n x2.c), (.int .i64 x3)] = spec_DeadIn C x0 x1 x2 x3 := by kernel_rfl
theorem spec_DeadIn_calls {R : Value → World → Prop} {w : World} (x0 : Array Value) (x1 : Sl) (x2 : Sl) (x3 : Int) (h : (spec_DeadIn (real Tryz.prog R) x0 x1 x2 x3 : World → Prop) w) :
    Calls Tryz.prog n_spec_DeadIn [(.agg x0), (.slice x1.a x1.n x1.c), (.slice x2.a x2.n x2.c), (.int .i64 x3)].toArray w fun e w' => ∃ v, e = .returned v ∧ R v w' := fT_sound mixed { loop := [(6, [(13, .slice), (14, (.int .i64))])], join := [], anyOrder := [], pure := [] } (by rw [spec_DeadIn_eq]; exact h)

/-- laws.toLeaseS (28) -/
def laws_toLeaseS (C : Comb) (x0 : Sl) : C.St :=
  C.sem (Instr.makeSlice ty_sl_impl_Lease (.int .i64 (x0.n : Int)) (.int .i64 (x0.n : Int))) .slice fun y7 =>
  C.loop (TL [(.int .i64)]) (embL [(.int .i64)]) [(.int .i64 0)] fun s2 ct2 => C.any fun _ =>
  cond (decide (s2 < (x0.n : Int))) (
    C.ix x0.a x0.n 33 s2 fun p18 =>
    C.ld .agg 33 p18 fun v19 =>
    C.call n_laws_toLease [(.agg v19)] [.agg] fun r20 =>
    C.ix y7.a y7.n 33 s2 fun p21 =>
    C.st 33 p21 (.agg r20) <|
    ct2 [(.int .i64 (IntKind.wrap .i64 (s2 + 1)))]
  ) (
    C.ret (.slice y7.a y7.n y7.c)
  )
theorem laws_toLeaseS_eq (C : Comb) (x0 : Sl) : fT C Tryz.prog { loop := [(3, [(4, (.int .i64))])], join := [], anyOrder := [], pure := [] } n_laws_toLeaseS [(.slice x0.a x0.n x0.c)] = laws_toLeaseS C x0 := by kernel_rfl
theorem laws_toLeaseS_calls {R : Value → World → Prop} {w : World} (x0 : Sl) (h : (laws_toLeaseS (real Tryz.prog R) x0 : World → Prop) w) :
    Calls Tryz.prog n_laws_toLeaseS [(.slice x0.a x0.n x0.c)].toArray w fun e w' => ∃ v, e = .returned v ∧ R v w' := fT_sound mixed { loop := [(3, [(4, (.int .i64))])], join := [], anyOrder := [], pure := [] } (by rw [laws_toLeaseS_eq]; exact h)

/-- impl.DeadIn (29) -/
def impl_DeadIn (C : Comb) (x0 : Array Value) (x1 : Sl) (x2 : Sl) (x3 : Int) : C.St :=
  C.new ty_impl_Store (.agg x0) fun b4 =>
  C.ld .agg 1 (Addr.mk b4 0 none) fun v14 =>
  C.call n_impl_alive [(.agg v14), (.slice x1.a x1.n x1.c), (.slice x2.a x2.n x2.c), (.int .i64 x3)] [.optr, .val, (.int .i64)] fun r18 =>
  C.new ty_map_impl_Key_bool (.map none) fun b11 =>
  C.st 1 (Addr.mk b11 0 none) r18.2.1 <|
  cond (r18.2.2 != 0) (
    C.ret (.tuple #[(.slice none 0 0), (.int .i64 r18.2.2)])
  ) (
    dpT C r18.1 fun a5 =>
    C.ld .slice 1 (a5.add 0) fun v28 =>
    C.call n_slices_DeleteFunc_sl_impl_Key_impl_Key [(.slice v28.a v28.n v28.c), (.func (.func n_impl_DeadIn_1) #[] #[(.pointer (some (Addr.mk b11 0 none)))])] [.slice] fun r30 =>
    C.ret (.tuple #[(.slice r30.a r30.n r30.c), (.int .i64 0)])
  )
theorem impl_DeadIn_eq (C : Comb) (x0 : Array Value) (x1 : Sl) (x2 : Sl) (x3 : Int) : fT C Tryz.prog { loop := [], join := [], anyOrder := [], pure := [] } n_impl_DeadIn [(.agg x0), (.slice x1.a x1.n x1.c), (.slice x2.a x2.n x2.c), (.int .i64 x3)] = impl_DeadIn C x0 x1 x2 x3 := by kernel_rfl
theorem impl_DeadIn_calls {R : Value → World → Prop} {w : World} (x0 : Array Value) (x1 : Sl) (x2 : Sl) (x3 : Int) (h : (impl_DeadIn (real Tryz.prog R) x0 x1 x2 x3 : World → Prop) w) :
    Calls Tryz.prog n_impl_DeadIn [(.agg x0), (.slice x1.a x1.n x1.c), (.slice x2.a x2.n x2.c), (.int .i64 x3)].toArray w fun e w' => ∃ v, e = .returned v ∧ R v w' := fT_sound mixed { loop := [], join := [], anyOrder := [], pure := [] } (by rw [impl_DeadIn_eq]; exact h)

/-- laws.eqLeaseS (30) -/
def laws_eqLeaseS (C : Comb) (x0 : Sl) (x1 : Sl) : C.St :=
  cond ((x0.n : Int) != (x1.n : Int)) (
    C.ret (.bool false)
  ) (
    C.loop (TL [(.int .i64)]) (embL [(.int .i64)]) [(.int .i64 0)] fun s1 ct1 => C.any fun _ =>
    cond (decide (s1 < (x0.n : Int))) (
      C.draw <|
      C.ix x0.a x0.n 33 s1 fun p19 =>
      C.ld .agg 33 p19 fun v20 =>
      C.ix x1.a x1.n 33 s1 fun p23 =>
      C.ld .agg 33 p23 fun v24 =>
      C.call n_laws_eqLease [(.agg v20), (.agg v24)] [.bool] fun r25 =>
      cond (!r25) (
        C.ret (.bool false)
      ) (
        ct1 [(.int .i64 (IntKind.wrap .i64 (s1 + 1)))]
      )
    ) (
      C.ret (.bool true)
    )
  )
theorem laws_eqLeaseS_eq (C : Comb) (x0 : Sl) (x1 : Sl) : fT C Tryz.prog { loop := [(4, [(5, (.int .i64))])], join := [], anyOrder := [6], pure := [] } n_laws_eqLeaseS [(.slice x0.a x0.n x0.c), (.slice x1.a x1.n x1.c)] = laws_eqLeaseS C x0 x1 := by kernel_rfl
theorem laws_eqLeaseS_calls {R : Value → World → Prop} {w : World} (x0 : Sl) (x1 : Sl) (h : (laws_eqLeaseS (real Tryz.prog R) x0 x1 : World → Prop) w) :
    Calls Tryz.prog n_laws_eqLeaseS [(.slice x0.a x0.n x0.c), (.slice x1.a x1.n x1.c)].toArray w fun e w' => ∃ v, e = .returned v ∧ R v w' := fT_sound mixed { loop := [(4, [(5, (.int .i64))])], join := [], anyOrder := [6], pure := [] } (by rw [laws_eqLeaseS_eq]; exact h)

/-- laws.markLeaseS (31) -/
def laws_markLeaseS (C : Comb) (x0 : Sl) (x1 : Int) : C.St :=
  C.loop (TL [(.int .i64), (.int .i64)]) (embL [(.int .i64), (.int .i64)]) [(.int .i64 x1), (.int .i64 0)] fun s1 ct1 => C.any fun _ =>
  cond (decide (s1.2 < (x0.n : Int))) (
    C.loop (TL [(.int .i64), (.int .i64)]) (embL [(.int .i64), (.int .i64)]) [(.int .i64 s1.1), (.int .i64 0)] fun s2 ct2 => C.any fun _ =>
    cond (decide (s2.2 < 32)) (
      C.ix x0.a x0.n 33 s1.2 fun p22 =>
      C.ix (some (p22.add 0)) 32 1 s2.2 fun p24 =>
      C.st 1 p24 (.int .u8 (IntKind.wrap .u8 (s2.1))) <|
      ct2 [(.int .i64 (IntKind.wrap .i64 (s2.1 + 1))), (.int .i64 (IntKind.wrap .i64 (s2.2 + 1)))]
    ) (
      C.ix x0.a x0.n 33 s1.2 fun p30 =>
      C.st 1 (p30.add 32) (.int .i64 s2.1) <|
      ct1 [(.int .i64 (IntKind.wrap .i64 (s2.1 + 1))), (.int .i64 (IntKind.wrap .i64 (s1.2 + 1)))]
    )
  ) (
    C.ret (.int .i64 s1.1)
  )
theorem laws_markLeaseS_eq (C : Comb) (x0 : Sl) (x1 : Int) : fT C Tryz.prog { loop := [(2, [(1, (.int .i64)), (5, (.int .i64))]), (5, [(1, (.int .i64)), (6, (.int .i64))])], join := [], anyOrder := [], pure := [] } n_laws_markLeaseS [(.slice x0.a x0.n x0.c), (.int .i64 x1)] = laws_markLeaseS C x0 x1 := by kernel_rfl
theorem laws_markLeaseS_calls {R : Value → World → Prop} {w : World} (x0 : Sl) (x1 : Int) (h : (laws_markLeaseS (real Tryz.prog R) x0 x1 : World → Prop) w) :
    Calls Tryz.prog n_laws_markLeaseS [(.slice x0.a x0.n x0.c), (.int .i64 x1)].toArray w fun e w' => ∃ v, e = .returned v ∧ R v w' := fT_sound mixed { loop := [(2, [(1, (.int .i64)), (5, (.int .i64))]), (5, [(1, (.int .i64)), (6, (.int .i64))])], join := [], anyOrder := [], pure := [] } (by rw [laws_markLeaseS_eq]; exact h)

/-- laws.f6big (32) -/
def laws_f6big (C : Comb) (x0 : Sl) : C.St :=
  C.ret (.bool (decide ((x0.n : Int) > 4096)))
theorem laws_f6big_eq (C : Comb) (x0 : Sl) : fT C Tryz.prog { loop := [], join := [], anyOrder := [], pure := [] } n_laws_f6big [(.slice x0.a x0.n x0.c)] = laws_f6big C x0 := by kernel_rfl
theorem laws_f6big_calls {R : Value → World → Prop} {w : World} (x0 : Sl) (h : (laws_f6big (real Tryz.prog R) x0 : World → Prop) w) :
    Calls Tryz.prog n_laws_f6big [(.slice x0.a x0.n x0.c)].toArray w fun e w' => ∃ v, e = .returned v ∧ R v w' := fT_sound mixed { loop := [], join := [], anyOrder := [], pure := [] } (by rw [laws_f6big_eq]; exact h)

/-- spec.P6Rooted (33) -/
def spec_P6Rooted (C : Comb) (x0 : Sl) : C.St :=
  C.new ty_impl_Store (.agg (#[(.slice none 0 0)])) fun b2 =>
  C.call n_spec_l00From [(.slice x0.a x0.n x0.c)] [.ptr] fun r8 =>
  C.call n_spec_l05Drawn [(.pointer (some r8))] [.agg, .slice] fun r11 =>
  C.new ty_impl_Store (.agg (#[(.slice none 0 0)])) fun b5 =>
  C.st 1 (Addr.mk b5 0 none) (.agg r11.1) <|
  C.call n_ptr_spec_l00Src_one [(.pointer (some r8)), (.int .i64 4)] [.bool] fun r15 =>
  cond r15 (
    C.call n_spec_l01Any [(.pointer (some r8))] [.agg] fun r18 =>
    C.sem (Instr.buildSlice ty_sl_impl_Key 1 #[(0, (.agg r18))]) .slice fun y19 =>
    C.sem (Builtin.append_ #[ty_sl_impl_Key, ty_sl_impl_Key] ty_sl_impl_Key #[(.slice r11.2.a r11.2.n r11.2.c), (.slice y19.a y19.n y19.c)]) .slice fun y20 =>
    C.ld .agg 1 (Addr.mk b5 0 none) fun v21 =>
    C.st 1 (Addr.mk b2 0 none) (.agg v21) <|
    C.ld .agg 1 (Addr.mk b2 0 none) fun z10 =>
    C.ret (.tuple #[(.agg z10), (.slice y20.a y20.n y20.c)])
  ) (
    C.ld .agg 1 (Addr.mk b5 0 none) fun v21 =>
    C.st 1 (Addr.mk b2 0 none) (.agg v21) <|
    C.ld .agg 1 (Addr.mk b2 0 none) fun z12 =>
    C.ret (.tuple #[(.agg z12), (.slice r11.2.a r11.2.n r11.2.c)])
  )
theorem spec_P6Rooted_eq (C : Comb) (x0 : Sl) : fT C Tryz.prog { loop := [], join := [], anyOrder := [], pure := [] } n_spec_P6Rooted [(.slice x0.a x0.n x0.c)] = spec_P6Rooted C x0 := by kernel_rfl
theorem spec_P6Rooted_calls {R : Value → World → Prop} {w : World} (x0 : Sl) (h : (spec_P6Rooted (real Tryz.prog R) x0 : World → Prop) w) :
    Calls Tryz.prog n_spec_P6Rooted [(.slice x0.a x0.n x0.c)].toArray w fun e w' => ∃ v, e = .returned v ∧ R v w' := fT_sound mixed { loop := [], join := [], anyOrder := [], pure := [] } (by rw [spec_P6Rooted_eq]; exact h)

/-- spec.KeysOfStore (34) -/
def spec_KeysOfStore (C : Comb) (x0 : Array Value) : C.St :=
  C.new ty_impl_Store (.agg x0) fun b1 =>
  C.call n_spec_l05Open [(.pointer (some (Addr.mk b1 0 none)))] [.optr, .bool] fun r7 =>
  cond (!r7.2) (
    C.sem (Instr.buildSlice ty_sl_impl_Key 0 #[]) .slice fun y12 =>
    C.ret (.tuple #[(.slice y12.a y12.n y12.c), (.int .i64 1)])
  ) (
    dpT C r7.1 fun a4 =>
    C.ld .slice 1 (a4.add 1) fun v16 =>
    C.ret (.tuple #[(.slice v16.a v16.n v16.c), (.int .i64 0)])
  )
theorem spec_KeysOfStore_eq (C : Comb) (x0 : Array Value) : fT C Tryz.prog { loop := [], join := [], anyOrder := [], pure := [] } n_spec_KeysOfStore [(.agg x0)] = spec_KeysOfStore C x0 := by kernel_rfl
theorem spec_KeysOfStore_calls {R : Value → World → Prop} {w : World} (x0 : Array Value) (h : (spec_KeysOfStore (real Tryz.prog R) x0 : World → Prop) w) :
    Calls Tryz.prog n_spec_KeysOfStore [(.agg x0)].toArray w fun e w' => ∃ v, e = .returned v ∧ R v w' := fT_sound mixed { loop := [], join := [], anyOrder := [], pure := [] } (by rw [spec_KeysOfStore_eq]; exact h)

/-- spec.P6Pick (35) -/
def spec_P6Pick (C : Comb) (x0 : Sl) (x1 : Int) : C.St :=
  C.call n_spec_l00From [(.slice x0.a x0.n x0.c)] [.ptr] fun r6 =>
  C.call n_ptr_spec_l00Src_pick [(.pointer (some r6)), (.int .i64 x1)] [(.int .i64)] fun r8 =>
  C.ret (.int .i64 r8)
theorem spec_P6Pick_eq (C : Comb) (x0 : Sl) (x1 : Int) : fT C Tryz.prog { loop := [], join := [], anyOrder := [], pure := [] } n_spec_P6Pick [(.slice x0.a x0.n x0.c), (.int .i64 x1)] = spec_P6Pick C x0 x1 := by kernel_rfl
theorem spec_P6Pick_calls {R : Value → World → Prop} {w : World} (x0 : Sl) (x1 : Int) (h : (spec_P6Pick (real Tryz.prog R) x0 x1 : World → Prop) w) :
    Calls Tryz.prog n_spec_P6Pick [(.slice x0.a x0.n x0.c), (.int .i64 x1)].toArray w fun e w' => ∃ v, e = .returned v ∧ R v w' := fT_sound mixed { loop := [], join := [], anyOrder := [], pure := [] } (by rw [spec_P6Pick_eq]; exact h)

/-- impl.Collect (36) -/
def impl_Collect (C : Comb) (x0 : Array Value) (x1 : Sl) (x2 : Sl) (x3 : Int) : C.St :=
  C.new ty_impl_Store (.agg x0) fun b4 =>
  C.new ty_impl_Store (.agg (#[(.slice none 0 0)])) fun b8 =>
  C.ld .agg 1 (Addr.mk b4 0 none) fun v14 =>
  C.call n_impl_alive [(.agg v14), (.slice x1.a x1.n x1.c), (.slice x2.a x2.n x2.c), (.int .i64 x3)] [.optr, .val, (.int .i64)] fun r18 =>
  C.new ty_map_impl_Key_bool (.map none) fun b11 =>
  C.st 1 (Addr.mk b11 0 none) r18.2.1 <|
  cond (r18.2.2 != 0) (
    C.pur (Instr.build ty_impl_Store #[]) .agg fun y24 =>
    C.st 1 (Addr.mk b8 0 none) (.agg y24) <|
    C.ld .agg 1 (Addr.mk b8 0 none) fun z7 =>
    C.ret (.tuple #[(.agg z7), (.int .i64 r18.2.2)])
  ) (
    C.call n_ptr_impl_shop_kept [(.pointer r18.1), (.func (.func n_impl_Collect_1) #[] #[(.pointer (some (Addr.mk b11 0 none)))])] [.agg] fun r28 =>
    C.st 1 (Addr.mk b8 0 none) (.agg r28) <|
    C.ld .agg 1 (Addr.mk b8 0 none) fun z9 =>
    C.ret (.tuple #[(.agg z9), (.int .i64 0)])
  )
theorem impl_Collect_eq (C : Comb) (x0 : Array Value) (x1 : Sl) (x2 : Sl) (x3 : Int) : fT C Tryz.prog { loop := [], join := [], anyOrder := [], pure := [] } n_impl_Collect [(.agg x0), (.slice x1.a x1.n x1.c), (.slice x2.a x2.n x2.c), (.int .i64 x3)] = impl_Collect C x0 x1 x2 x3 := by kernel_rfl
theorem impl_Collect_calls {R : Value → World → Prop} {w : World} (x0 : Array Value) (x1 : Sl) (x2 : Sl) (x3 : Int) (h : (impl_Collect (real Tryz.prog R) x0 x1 x2 x3 : World → Prop) w) :
    Calls Tryz.prog n_impl_Collect [(.agg x0), (.slice x1.a x1.n x1.c), (.slice x2.a x2.n x2.c), (.int .i64 x3)].toArray w fun e w' => ∃ v, e = .returned v ∧ R v w' := fT_sound mixed { loop := [], join := [], anyOrder := [], pure := [] } (by rw [impl_Collect_eq]; exact h)

/-- spec.Collect (37) -/
def spec_Collect (C : Comb) (x0 : Array Value) (x1 : Sl) (x2 : Sl) (x3 : Int) : C.St :=
  C.new ty_impl_Store (.agg x0) fun b4 =>
  C.new ty_impl_Store (.agg (#[(.slice none 0 0)])) fun b8 =>
  C.call n_spec_l05Needed [(.pointer (some (Addr.mk b4 0 none))), (.slice x1.a x1.n x1.c), (.slice x2.a x2.n x2.c), (.int .i64 x3)] [.optr, .slice, (.int .i64)] fun r17 =>
  cond (r17.2.2 != 0) (
    C.pur (Instr.build ty_impl_Store #[]) .agg fun y23 =>
    C.st 1 (Addr.mk b8 0 none) (.agg y23) <|
    C.ld .agg 1 (Addr.mk b8 0 none) fun z5 =>
    C.ret (.tuple #[(.agg z5), (.int .i64 r17.2.2)])
  ) (
    C.call n_ptr_spec_l05Store_keep [(.pointer r17.1), (.slice r17.2.1.a r17.2.1.n r17.2.1.c)] [.ptr] fun r27 =>
    C.call n_ptr_spec_l05Store_store [(.pointer (some r27))] [.agg] fun r28 =>
    C.st 1 (Addr.mk b8 0 none) (.agg r28) <|
    C.ld .agg 1 (Addr.mk b8 0 none) fun z8 =>
    C.ret (.tuple #[(.agg z8), (.int .i64 0)])
  )
theorem spec_Collect_eq (C : Comb) (x0 : Array Value) (x1 : Sl) (x2 : Sl) (x3 : Int) : fT C Tryz.prog { loop := [], join := [], anyOrder := [], pure := [] } n_spec_Collect [(.agg x0), (.slice x1.a x1.n x1.c), (.slice x2.a x2.n x2.c), (.int .i64 x3)] = spec_Collect C x0 x1 x2 x3 := by kernel_rfl
theorem spec_Collect_calls {R : Value → World → Prop} {w : World} (x0 : Array Value) (x1 : Sl) (x2 : Sl) (x3 : Int) (h : (spec_Collect (real Tryz.prog R) x0 x1 x2 x3 : World → Prop) w) :
    Calls Tryz.prog n_spec_Collect [(.agg x0), (.slice x1.a x1.n x1.c), (.slice x2.a x2.n x2.c), (.int .i64 x3)].toArray w fun e w' => ∃ v, e = .returned v ∧ R v w' := fT_sound mixed { loop := [], join := [], anyOrder := [], pure := [] } (by rw [spec_Collect_eq]; exact h)

/-- spec.SameStore (38) -/
def spec_SameStore (C : Comb) (x0 : Array Value) (x1 : Array Value) : C.St :=
  C.new ty_impl_Store (.agg x0) fun b2 =>
  C.new ty_impl_Store (.agg x1) fun b3 =>
  C.ld .slice 1 ((Addr.mk b2 0 none).add 0) fun v7 =>
  C.ld .slice 1 ((Addr.mk b3 0 none).add 0) fun v10 =>
  cond ((v7.n : Int) != (v10.n : Int)) (
    C.ret (.bool false)
  ) (
    C.loop (TL [(.int .i64)]) (embL [(.int .i64)]) [(.int .i64 0)] fun s5 ct5 => C.any fun _ =>
    C.ld .slice 1 ((Addr.mk b2 0 none).add 0) fun v15 =>
    cond (decide (s5 < (v15.n : Int))) (
      C.draw <|
      C.ld .slice 1 ((Addr.mk b2 0 none).add 0) fun v21 =>
      C.ix v21.a v21.n 2 s5 fun p23 =>
      C.ld .slice 1 ((Addr.mk b3 0 none).add 0) fun v25 =>
      C.ix v25.a v25.n 2 s5 fun p27 =>
      C.call n_spec_l05SameBlob [(.pointer (some p23)), (.pointer (some p27))] [.bool] fun r28 =>
      C.chk [⟨5, 1, ((Addr.mk b3 0 none).add 0), .slice, v25⟩, ⟨1, 1, ((Addr.mk b2 0 none).add 0), .slice, v21⟩] <|
      cond (!r28) (
        C.ret (.bool false)
      ) (
        ct5 [(.int .i64 (IntKind.wrap .i64 (s5 + 1)))]
      )
    ) (
      C.ret (.bool true)
    )
  )
theorem spec_SameStore_eq (C : Comb) (x0 : Array Value) (x1 : Array Value) : fT C Tryz.prog { loop := [(4, [(5, (.int .i64))])], join := [], anyOrder := [6], pure := [] } n_spec_SameStore [(.agg x0), (.agg x1)] = spec_SameStore C x0 x1 := by kernel_rfl
theorem spec_SameStore_calls {R : Value → World → Prop} {w : World} (x0 : Array Value) (x1 : Array Value) (h : (spec_SameStore (real Tryz.prog R) x0 x1 : World → Prop) w) :
    Calls Tryz.prog n_spec_SameStore [(.agg x0), (.agg x1)].toArray w fun e w' => ∃ v, e = .returned v ∧ R v w' := fT_sound mixed { loop := [(4, [(5, (.int .i64))])], join := [], anyOrder := [6], pure := [] } (by rw [spec_SameStore_eq]; exact h)

/-- spec.EqualKeys (39) -/
def spec_EqualKeys (C : Comb) (x0 : Sl) (x1 : Sl) : C.St :=
  cond ((x0.n : Int) != (x1.n : Int)) (
    C.ret (.bool false)
  ) (
    C.loop (TL [(.int .i64)]) (embL [(.int .i64)]) [(.int .i64 0)] fun s1 ct1 => C.any fun _ =>
    cond (decide (s1 < (x0.n : Int))) (
      C.draw <|
      C.ix x0.a x0.n 32 s1 fun p19 =>
      C.ld .agg 32 p19 fun v20 =>
      C.ix x1.a x1.n 32 s1 fun p23 =>
      C.ld .agg 32 p23 fun v24 =>
      C.pur (eqB .neq ty_impl_Key (.tmp 20) (.tmp 24) (.agg v20) (.agg v24)) .bool fun y25 =>
      cond y25 (
        C.ret (.bool false)
      ) (
        ct1 [(.int .i64 (IntKind.wrap .i64 (s1 + 1)))]
      )
    ) (
      C.ret (.bool true)
    )
  )
theorem spec_EqualKeys_eq (C : Comb) (x0 : Sl) (x1 : Sl) : fT C Tryz.prog { loop := [(4, [(5, (.int .i64))])], join := [], anyOrder := [], pure := [] } n_spec_EqualKeys [(.slice x0.a x0.n x0.c), (.slice x1.a x1.n x1.c)] = spec_EqualKeys C x0 x1 := by kernel_rfl
theorem spec_EqualKeys_calls {R : Value → World → Prop} {w : World} (x0 : Sl) (x1 : Sl) (h : (spec_EqualKeys (real Tryz.prog R) x0 x1 : World → Prop) w) :
    Calls Tryz.prog n_spec_EqualKeys [(.slice x0.a x0.n x0.c), (.slice x1.a x1.n x1.c)].toArray w fun e w' => ∃ v, e = .returned v ∧ R v w' := fT_sound mixed { loop := [(4, [(5, (.int .i64))])], join := [], anyOrder := [], pure := [] } (by rw [spec_EqualKeys_eq]; exact h)

/-- impl.KeysOfStore (40) -/
def impl_KeysOfStore (C : Comb) (x0 : Array Value) : C.St :=
  C.new ty_impl_Store (.agg x0) fun b1 =>
  C.ld .agg 1 (Addr.mk b1 0 none) fun v7 =>
  C.call n_impl_newShop [(.agg v7)] [.optr, .bool] fun r8 =>
  cond (!r8.2) (
    C.ret (.tuple #[(.slice none 0 0), (.int .i64 1)])
  ) (
    dpT C r8.1 fun a4 =>
    C.ld .slice 1 (a4.add 0) fun v16 =>
    C.ret (.tuple #[(.slice v16.a v16.n v16.c), (.int .i64 0)])
  )
theorem impl_KeysOfStore_eq (C : Comb) (x0 : Array Value) : fT C Tryz.prog { loop := [], join := [], anyOrder := [], pure := [] } n_impl_KeysOfStore [(.agg x0)] = impl_KeysOfStore C x0 := by kernel_rfl
theorem impl_KeysOfStore_calls {R : Value → World → Prop} {w : World} (x0 : Array Value) (h : (impl_KeysOfStore (real Tryz.prog R) x0 : World → Prop) w) :
    Calls Tryz.prog n_impl_KeysOfStore [(.agg x0)].toArray w fun e w' => ∃ v, e = .returned v ∧ R v w' := fT_sound mixed { loop := [], join := [], anyOrder := [], pure := [] } (by rw [impl_KeysOfStore_eq]; exact h)

/-- laws.heldStore (41) -/
def laws_heldStore (C : Comb) (x0 : Array Value) (x1 : Int) : C.St :=
  C.new ty_impl_Store (.agg x0) fun b2 =>
  C.ld .slice 1 ((Addr.mk b2 0 none).add 0) fun v6 =>
  C.call n_laws_heldBlobS [(.slice v6.a v6.n v6.c), (.int .i64 x1)] [(.int .i64)] fun r8 =>
  cond (decide (r8 < 0)) (
    C.ret (.int .i64 (-1))
  ) (
    C.ret (.int .i64 r8)
  )
theorem laws_heldStore_eq (C : Comb) (x0 : Array Value) (x1 : Int) : fT C Tryz.prog { loop := [], join := [], anyOrder := [], pure := [] } n_laws_heldStore [(.agg x0), (.int .i64 x1)] = laws_heldStore C x0 x1 := by kernel_rfl
theorem laws_heldStore_calls {R : Value → World → Prop} {w : World} (x0 : Array Value) (x1 : Int) (h : (laws_heldStore (real Tryz.prog R) x0 x1 : World → Prop) w) :
    Calls Tryz.prog n_laws_heldStore [(.agg x0), (.int .i64 x1)].toArray w fun e w' => ∃ v, e = .returned v ∧ R v w' := fT_sound mixed { loop := [], join := [], anyOrder := [], pure := [] } (by rw [laws_heldStore_eq]; exact h)

/-- spec.P6Store (42) -/
def spec_P6Store (C : Comb) (x0 : Sl) : C.St :=
  C.new ty_impl_Store (.agg (#[(.slice none 0 0)])) fun b2 =>
  C.call n_spec_l00From [(.slice x0.a x0.n x0.c)] [.ptr] fun r7 =>
  C.call n_spec_l05Drawn [(.pointer (some r7))] [.agg, .slice] fun r8 =>
  C.new ty_impl_Store (.agg (#[(.slice none 0 0)])) fun b3 =>
  C.st 1 (Addr.mk b3 0 none) (.agg r8.1) <|
  C.ld .agg 1 (Addr.mk b3 0 none) fun v11 =>
  C.st 1 (Addr.mk b2 0 none) (.agg v11) <|
  C.ld .agg 1 (Addr.mk b2 0 none) fun z6 =>
  C.ret (.agg z6)
theorem spec_P6Store_eq (C : Comb) (x0 : Sl) : fT C Tryz.prog { loop := [], join := [], anyOrder := [], pure := [] } n_spec_P6Store [(.slice x0.a x0.n x0.c)] = spec_P6Store C x0 := by kernel_rfl
theorem spec_P6Store_calls {R : Value → World → Prop} {w : World} (x0 : Sl) (h : (spec_P6Store (real Tryz.prog R) x0 : World → Prop) w) :
    Calls Tryz.prog n_spec_P6Store [(.slice x0.a x0.n x0.c)].toArray w fun e w' => ∃ v, e = .returned v ∧ R v w' := fT_sound mixed { loop := [], join := [], anyOrder := [], pure := [] } (by rw [spec_P6Store_eq]; exact h)

/-- impl.LinkCounts (43) -/
def impl_LinkCounts (C : Comb) (x0 : Array Value) : C.St :=
  C.new ty_impl_Store (.agg x0) fun b1 =>
  C.ld .agg 1 (Addr.mk b1 0 none) fun v7 =>
  C.call n_impl_newShop [(.agg v7)] [.optr, .bool] fun r8 =>
  cond (!r8.2) (
    C.ret (.tuple #[(.slice none 0 0), (.int .i64 1)])
  ) (
    C.call n_ptr_impl_shop_counts [(.pointer r8.1)] [.slice] fun r14 =>
    C.ret (.tuple #[(.slice r14.a r14.n r14.c), (.int .i64 0)])
  )
theorem impl_LinkCounts_eq (C : Comb) (x0 : Array Value) : fT C Tryz.prog { loop := [], join := [], anyOrder := [], pure := [] } n_impl_LinkCounts [(.agg x0)] = impl_LinkCounts C x0 := by kernel_rfl
theorem impl_LinkCounts_calls {R : Value → World → Prop} {w : World} (x0 : Array Value) (h : (impl_LinkCounts (real Tryz.prog R) x0 : World → Prop) w) :
    Calls Tryz.prog n_impl_LinkCounts [(.agg x0)].toArray w fun e w' => ∃ v, e = .returned v ∧ R v w' := fT_sound mixed { loop := [], join := [], anyOrder := [], pure := [] } (by rw [impl_LinkCounts_eq]; exact h)

/-- spec.LinkCounts (44) -/
def spec_LinkCounts (C : Comb) (x0 : Array Value) : C.St :=
  C.new ty_impl_Store (.agg x0) fun b1 =>
  C.call n_spec_l05Open [(.pointer (some (Addr.mk b1 0 none)))] [.optr, .bool] fun r7 =>
  cond (!r7.2) (
    C.sem (Instr.buildSlice ty_sl_int64 0 #[]) .slice fun y12 =>
    C.ret (.tuple #[(.slice y12.a y12.n y12.c), (.int .i64 1)])
  ) (
    C.call n_ptr_spec_l05Store_counts [(.pointer r7.1)] [.slice] fun r14 =>
    C.ret (.tuple #[(.slice r14.a r14.n r14.c), (.int .i64 0)])
  )
theorem spec_LinkCounts_eq (C : Comb) (x0 : Array Value) : fT C Tryz.prog { loop := [], join := [], anyOrder := [], pure := [] } n_spec_LinkCounts [(.agg x0)] = spec_LinkCounts C x0 := by kernel_rfl
theorem spec_LinkCounts_calls {R : Value → World → Prop} {w : World} (x0 : Array Value) (h : (spec_LinkCounts (real Tryz.prog R) x0 : World → Prop) w) :
    Calls Tryz.prog n_spec_LinkCounts [(.agg x0)].toArray w fun e w' => ∃ v, e = .returned v ∧ R v w' := fT_sound mixed { loop := [], join := [], anyOrder := [], pure := [] } (by rw [spec_LinkCounts_eq]; exact h)

/-- impl.RootsOf (45) -/
def impl_RootsOf (C : Comb) (x0 : Array Value) : C.St :=
  C.new ty_impl_Store (.agg x0) fun b1 =>
  C.ld .agg 1 (Addr.mk b1 0 none) fun v10 =>
  C.call n_impl_newShop [(.agg v10)] [.optr, .bool] fun r11 =>
  cond (!r11.2) (
    C.ret (.tuple #[(.slice none 0 0), (.int .i64 1)])
  ) (
    C.sem (Instr.buildSlice ty_sl_impl_Key 0 #[]) .slice fun y16 =>
    C.call n_ptr_impl_shop_counts [(.pointer r11.1)] [.slice] fun r18 =>
    C.loop (TL [.slice, (.int .i64)]) (embL [.slice, (.int .i64)]) [(.slice y16.a y16.n y16.c), (.int .i64 0)] fun s6 ct6 => C.any fun _ =>
    cond (decide (s6.2 < (r18.n : Int))) (
      C.ix r18.a r18.n 1 s6.2 fun p23 =>
      C.ld (.int .i64) 1 p23 fun v24 =>
      cond (v24 == 0) (
        dpT C r11.1 fun a9 =>
        C.ld .slice 1 (a9.add 0) fun v31 =>
        C.ix v31.a v31.n 32 s6.2 fun p33 =>
        C.ld .agg 32 p33 fun v34 =>
        C.sem (Instr.buildSlice ty_sl_impl_Key 1 #[(0, (.agg v34))]) .slice fun y35 =>
        C.sem (Builtin.append_ #[ty_sl_impl_Key, ty_sl_impl_Key] ty_sl_impl_Key #[(.slice s6.1.a s6.1.n s6.1.c), (.slice y35.a y35.n y35.c)]) .slice fun y36 =>
        ct6 [(.slice y36.a y36.n y36.c), (.int .i64 (IntKind.wrap .i64 (s6.2 + 1)))]
      ) (
        ct6 [(.slice s6.1.a s6.1.n s6.1.c), (.int .i64 (IntKind.wrap .i64 (s6.2 + 1)))]
      )
    ) (
      C.ret (.tuple #[(.slice s6.1.a s6.1.n s6.1.c), (.int .i64 0)])
    )
  )
theorem impl_RootsOf_eq (C : Comb) (x0 : Array Value) : fT C Tryz.prog { loop := [(6, [(6, .slice), (20, (.int .i64))])], join := [], anyOrder := [], pure := [] } n_impl_RootsOf [(.agg x0)] = impl_RootsOf C x0 := by kernel_rfl
theorem impl_RootsOf_calls {R : Value → World → Prop} {w : World} (x0 : Array Value) (h : (impl_RootsOf (real Tryz.prog R) x0 : World → Prop) w) :
    Calls Tryz.prog n_impl_RootsOf [(.agg x0)].toArray w fun e w' => ∃ v, e = .returned v ∧ R v w' := fT_sound mixed { loop := [(6, [(6, .slice), (20, (.int .i64))])], join := [], anyOrder := [], pure := [] } (by rw [impl_RootsOf_eq]; exact h)

/-- spec.HasKey (46) -/
def spec_HasKey (C : Comb) (x0 : Sl) (x1 : Array Value) : C.St :=
  C.new ty_impl_Key (.agg x1) fun b3 =>
  C.ld .agg 32 (Addr.mk b3 0 none) fun v6 =>
  C.call n_spec_l01Has [(.slice x0.a x0.n x0.c), (.agg v6)] [.bool] fun r7 =>
  C.ret (.bool r7)
theorem spec_HasKey_eq (C : Comb) (x0 : Sl) (x1 : Array Value) : fT C Tryz.prog { loop := [], join := [], anyOrder := [], pure := [] } n_spec_HasKey [(.slice x0.a x0.n x0.c), (.agg x1)] = spec_HasKey C x0 x1 := by kernel_rfl
theorem spec_HasKey_calls {R : Value → World → Prop} {w : World} (x0 : Sl) (x1 : Array Value) (h : (spec_HasKey (real Tryz.prog R) x0 x1 : World → Prop) w) :
    Calls Tryz.prog n_spec_HasKey [(.slice x0.a x0.n x0.c), (.agg x1)].toArray w fun e w' => ∃ v, e = .returned v ∧ R v w' := fT_sound mixed { loop := [], join := [], anyOrder := [], pure := [] } (by rw [spec_HasKey_eq]; exact h)

/-- spec.GetBlob (47) -/
def spec_GetBlob (C : Comb) (x0 : Array Value) (x1 : Array Value) : C.St :=
  C.new ty_impl_Store (.agg x0) fun b2 =>
  C.new ty_impl_Key (.agg x1) fun b3 =>
  C.new ty_impl_Blob (.agg (#[(.int .u8 0), (.slice none 0 0)])) fun b4 =>
  C.call n_spec_l05Open [(.pointer (some (Addr.mk b2 0 none)))] [.optr, .bool] fun r10 =>
  cond (!r10.2) (
    C.pur (Instr.build ty_impl_Blob #[]) .agg fun y15 =>
    C.st 2 (Addr.mk b4 0 none) (.agg y15) <|
    C.ld .agg 2 (Addr.mk b4 0 none) fun z6 =>
    C.ret (.tuple #[(.agg z6), (.int .i64 1)])
  ) (
    C.ld .agg 32 (Addr.mk b3 0 none) fun v17 =>
    C.call n_ptr_spec_l05Store_find [(.pointer r10.1), (.agg v17)] [(.int .i64)] fun r18 =>
    cond (decide (r18 < 0)) (
      C.pur (Instr.build ty_impl_Blob #[]) .agg fun y21 =>
      C.st 2 (Addr.mk b4 0 none) (.agg y21) <|
      C.ld .agg 2 (Addr.mk b4 0 none) fun z10 =>
      C.ret (.tuple #[(.agg z10), (.int .i64 6)])
    ) (
      dpT C r10.1 fun a11 =>
      C.ld .slice 1 (a11.add 0) fun v25 =>
      C.ix v25.a v25.n 2 r18 fun p27 =>
      C.ld .agg 2 p27 fun v28 =>
      C.call n_spec_l05Copy [(.agg v28)] [.agg] fun r29 =>
      C.st 2 (Addr.mk b4 0 none) (.agg r29) <|
      C.ld .agg 2 (Addr.mk b4 0 none) fun z16 =>
      C.ret (.tuple #[(.agg z16), (.int .i64 0)])
    )
  )
theorem spec_GetBlob_eq (C : Comb) (x0 : Array Value) (x1 : Array Value) : fT C Tryz.prog { loop := [], join := [], anyOrder := [], pure := [] } n_spec_GetBlob [(.agg x0), (.agg x1)] = spec_GetBlob C x0 x1 := by kernel_rfl
theorem spec_GetBlob_calls {R : Value → World → Prop} {w : World} (x0 : Array Value) (x1 : Array Value) (h : (spec_GetBlob (real Tryz.prog R) x0 x1 : World → Prop) w) :
    Calls Tryz.prog n_spec_GetBlob [(.agg x0), (.agg x1)].toArray w fun e w' => ∃ v, e = .returned v ∧ R v w' := fT_sound mixed { loop := [], join := [], anyOrder := [], pure := [] } (by rw [spec_GetBlob_eq]; exact h)

/-- impl.LinksOf (48) -/
def impl_LinksOf (C : Comb) (x0 : Array Value) : C.St :=
  C.new ty_impl_Blob (.agg x0) fun b1 =>
  C.ld .agg 2 (Addr.mk b1 0 none) fun v4 =>
  C.call n_impl_ValidBlob [(.agg v4)] [.bool] fun r5 =>
  cond (!r5) (
    C.ret (.tuple #[(.slice none 0 0), (.int .i64 1)])
  ) (
    C.ld .agg 2 (Addr.mk b1 0 none) fun v7 =>
    C.call n_impl_Blob_links [(.agg v7)] [.slice] fun r8 =>
    C.ret (.tuple #[(.slice r8.a r8.n r8.c), (.int .i64 0)])
  )
theorem impl_LinksOf_eq (C : Comb) (x0 : Array Value) : fT C Tryz.prog { loop := [], join := [], anyOrder := [], pure := [] } n_impl_LinksOf [(.agg x0)] = impl_LinksOf C x0 := by kernel_rfl
theorem impl_LinksOf_calls {R : Value → World → Prop} {w : World} (x0 : Array Value) (h : (impl_LinksOf (real Tryz.prog R) x0 : World → Prop) w) :
    Calls Tryz.prog n_impl_LinksOf [(.agg x0)].toArray w fun e w' => ∃ v, e = .returned v ∧ R v w' := fT_sound mixed { loop := [], join := [], anyOrder := [], pure := [] } (by rw [impl_LinksOf_eq]; exact h)

/-- laws.szBlobS (49) -/
def laws_szBlobS (C : Comb) (x0 : Sl) (x1 : Int) : C.St :=
  cond (decide ((IntKind.wrap .i64 (x1 - (x0.n : Int))) < 0)) (
    C.ret (.int .i64 (-1))
  ) (
    C.loop (TL [(.int .i64), (.int .i64)]) (embL [(.int .i64), (.int .i64)]) [(.int .i64 (IntKind.wrap .i64 (x1 - (x0.n : Int)))), (.int .i64 0)] fun s1 ct1 => C.any fun _ =>
    cond (decide (s1.2 < (x0.n : Int))) (
      C.ix x0.a x0.n 2 s1.2 fun p20 =>
      C.ld .agg 2 p20 fun v21 =>
      C.call n_laws_szBlob [(.agg v21), (.int .i64 s1.1)] [(.int .i64)] fun r23 =>
      cond (decide (r23 < 0)) (
        C.ret (.int .i64 (-1))
      ) (
        ct1 [(.int .i64 r23), (.int .i64 (IntKind.wrap .i64 (s1.2 + 1)))]
      )
    ) (
      C.ret (.int .i64 s1.1)
    )
  )
theorem laws_szBlobS_eq (C : Comb) (x0 : Sl) (x1 : Int) : fT C Tryz.prog { loop := [(5, [(1, (.int .i64)), (5, (.int .i64))])], join := [], anyOrder := [], pure := [] } n_laws_szBlobS [(.slice x0.a x0.n x0.c), (.int .i64 x1)] = laws_szBlobS C x0 x1 := by kernel_rfl
theorem laws_szBlobS_calls {R : Value → World → Prop} {w : World} (x0 : Sl) (x1 : Int) (h : (laws_szBlobS (real Tryz.prog R) x0 x1 : World → Prop) w) :
    Calls Tryz.prog n_laws_szBlobS [(.slice x0.a x0.n x0.c), (.int .i64 x1)].toArray w fun e w' => ∃ v, e = .returned v ∧ R v w' := fT_sound mixed { loop := [(5, [(1, (.int .i64)), (5, (.int .i64))])], join := [], anyOrder := [], pure := [] } (by rw [laws_szBlobS_eq]; exact h)

/-- spec.l05Open (50) -/
def spec_l05Open (C : Comb) (x0 : Addr) : C.St :=
  C.pur (Instr.build ty_spec_l05Store #[]) .agg fun y7 =>
  C.new ty_spec_l05Store (.agg y7) fun b8 =>
  C.ld .slice 1 (x0.add 0) fun v12 =>
  cond (decide ((v12.n : Int) > 128)) (
    C.ret (.tuple #[(.pointer (some (Addr.mk b8 0 none))), (.bool false)])
  ) (
    C.loop (TL [(.int .i64)]) (embL [(.int .i64)]) [(.int .i64 0)] fun s4 ct4 => C.any fun _ =>
    C.ld .slice 1 (x0.add 0) fun v20 =>
    cond (decide (s4 < (v20.n : Int))) (
      C.ld .slice 1 (x0.add 0) fun v28 =>
      C.ix v28.a v28.n 2 s4 fun p30 =>
      C.call n_spec_l05Blob [(.pointer (some p30))] [.bool] fun r31 =>
      cond (!r31) (
        C.ret (.tuple #[(.pointer (some (Addr.mk b8 0 none))), (.bool false)])
      ) (
        C.ld .slice 1 (x0.add 0) fun v37 =>
        C.ix v37.a v37.n 2 s4 fun p39 =>
        C.call n_spec_l05Key [(.pointer (some p39))] [.agg] fun r40 =>
        C.new ty_impl_Key (.agg (Array.replicate 32 (.int .u8 0))) fun b6 =>
        C.st 32 (Addr.mk b6 0 none) (.agg r40) <|
        C.join (TL []) (embL []) (fun s26 => C.any fun _ =>
            C.join (TL []) (embL []) (fun s33 => C.any fun _ =>
                C.draw <|
                C.ld .slice 1 ((Addr.mk b8 0 none).add 1) fun v77 =>
                C.ld .agg 32 (Addr.mk b6 0 none) fun v78 =>
                C.sem (Instr.buildSlice ty_sl_impl_Key 1 #[(0, (.agg v78))]) .slice fun y79 =>
                C.chk [⟨4, 1, ((Addr.mk b8 0 none).add 1), .slice, v77⟩] <|
                C.sem (Builtin.append_ #[ty_sl_impl_Key, ty_sl_impl_Key] ty_sl_impl_Key #[(.slice v77.a v77.n v77.c), (.slice y79.a y79.n y79.c)]) .slice fun y80 =>
                C.st 1 ((Addr.mk b8 0 none).add 1) (.slice y80.a y80.n y80.c) <|
                ct4 [(.int .i64 (IntKind.wrap .i64 (s4 + 1)))]
              ) fun jt =>
            C.draw <|
            C.ld .slice 1 ((Addr.mk b8 0 none).add 0) fun v61 =>
            C.ld .slice 1 (x0.add 0) fun v65 =>
            C.ix v65.a v65.n 2 s4 fun p67 =>
            C.ld .agg 2 p67 fun v68 =>
            C.sem (Instr.buildSlice ty_sl_impl_Blob 1 #[(0, (.agg v68))]) .slice fun y69 =>
            C.chk [⟨8, 1, (x0.add 0), .slice, v65⟩, ⟨4, 1, ((Addr.mk b8 0 none).add 0), .slice, v61⟩] <|
            C.sem (Builtin.append_ #[ty_sl_impl_Blob, ty_sl_impl_Blob] ty_sl_impl_Blob #[(.slice v61.a v61.n v61.c), (.slice y69.a y69.n y69.c)]) .slice fun y70 =>
            C.chk [⟨8, 1, (x0.add 0), .slice, v65⟩] <|
            C.st 1 ((Addr.mk b8 0 none).add 0) (.slice y70.a y70.n y70.c) <|
            jt []
          ) fun jt =>
        C.draw <|
        cond (decide (s4 > 0)) (
          C.all [
            (C.ld .slice 1 ((Addr.mk b8 0 none).add 1) fun v47 =>
             C.ix v47.a v47.n 32 (IntKind.wrap .i64 (s4 - 1)) fun p50 =>
             C.all [
               (C.ld .agg 32 p50 fun v51 =>
                C.ld .agg 32 (Addr.mk b6 0 none) fun v52 =>
                C.call n_spec_l01Compare [(.agg v51), (.agg v52)] [(.int .i64)] fun r53 =>
                cond (decide (r53 ≥ 0)) (
                  C.ret (.tuple #[(.pointer (some (Addr.mk b8 0 none))), (.bool false)])
                ) (
                  jt []
                )),
               (C.ld .agg 32 (Addr.mk b6 0 none) fun v52 =>
                C.ld .agg 32 p50 fun v51 =>
                C.call n_spec_l01Compare [(.agg v51), (.agg v52)] [(.int .i64)] fun r53 =>
                cond (decide (r53 ≥ 0)) (
                  C.ret (.tuple #[(.pointer (some (Addr.mk b8 0 none))), (.bool false)])
                ) (
                  jt []
                ))]),
            (C.ld .agg 32 (Addr.mk b6 0 none) fun v52 =>
             C.ld .slice 1 ((Addr.mk b8 0 none).add 1) fun v47 =>
             C.ix v47.a v47.n 32 (IntKind.wrap .i64 (s4 - 1)) fun p50 =>
             C.ld .agg 32 p50 fun v51 =>
             C.call n_spec_l01Compare [(.agg v51), (.agg v52)] [(.int .i64)] fun r53 =>
             cond (decide (r53 ≥ 0)) (
               C.ret (.tuple #[(.pointer (some (Addr.mk b8 0 none))), (.bool false)])
             ) (
               jt []
             ))]
        ) (
          C.all [
            (C.all [
               (jt []),
               (jt [])]),
            (jt [])]
        )
      )
    ) (
      C.ret (.tuple #[(.pointer (some (Addr.mk b8 0 none))), (.bool true)])
    )
  )
theorem spec_l05Open_eq (C : Comb) (x0 : Addr) : fT C Tryz.prog { loop := [(5, [(5, (.int .i64))])], join := [(165, []), (37, [])], anyOrder := [10, 12, 13], pure := [] } n_spec_l05Open [(.pointer (some x0))] = spec_l05Open C x0 := by kernel_rfl
theorem spec_l05Open_calls {R : Value → World → Prop} {w : World} (x0 : Addr) (h : (spec_l05Open (real Tryz.prog R) x0 : World → Prop) w) :
    Calls Tryz.prog n_spec_l05Open [(.pointer (some x0))].toArray w fun e w' => ∃ v, e = .returned v ∧ R v w' := fT_sound mixed { loop := [(5, [(5, (.int .i64))])], join := [(165, []), (37, [])], anyOrder := [10, 12, 13], pure := [] } (by rw [spec_l05Open_eq]; exact h)

/-- (*spec.l05Store).find (51) -/
def ptr_spec_l05Store_find (C : Comb) (x0 : Addr) (x1 : Array Value) : C.St :=
  C.new ty_impl_Key (.agg x1) fun b3 =>
  C.loop (TL [(.int .i64)]) (embL [(.int .i64)]) [(.int .i64 0)] fun s2 ct2 => C.any fun _ =>
  C.ld .slice 1 (x0.add 1) fun v10 =>
  cond (decide (s2 < (v10.n : Int))) (
    C.draw <|
    C.ld .slice 1 (x0.add 1) fun v18 =>
    C.ix v18.a v18.n 32 s2 fun p20 =>
    C.ld .agg 32 p20 fun v21 =>
    C.ld .agg 32 (Addr.mk b3 0 none) fun v22 =>
    C.pur (eqB .eql ty_impl_Key (.tmp 21) (.tmp 22) (.agg v21) (.agg v22)) .bool fun y23 =>
    cond y23 (
      C.ret (.int .i64 s2)
    ) (
      ct2 [(.int .i64 (IntKind.wrap .i64 (s2 + 1)))]
    )
  ) (
    C.ret (.int .i64 (-1))
  )
theorem ptr_spec_l05Store_find_eq (C : Comb) (x0 : Addr) (x1 : Array Value) : fT C Tryz.prog { loop := [(2, [(5, (.int .i64))])], join := [], anyOrder := [], pure := [] } n_ptr_spec_l05Store_find [(.pointer (some x0)), (.agg x1)] = ptr_spec_l05Store_find C x0 x1 := by kernel_rfl
theorem ptr_spec_l05Store_find_calls {R : Value → World → Prop} {w : World} (x0 : Addr) (x1 : Array Value) (h : (ptr_spec_l05Store_find (real Tryz.prog R) x0 x1 : World → Prop) w) :
    Calls Tryz.prog n_ptr_spec_l05Store_find [(.pointer (some x0)), (.agg x1)].toArray w fun e w' => ∃ v, e = .returned v ∧ R v w' := fT_sound mixed { loop := [(2, [(5, (.int .i64))])], join := [], anyOrder := [], pure := [] } (by rw [ptr_spec_l05Store_find_eq]; exact h)

/-- spec.l05Links (52) -/
def spec_l05Links (C : Comb) (x0 : Addr) : C.St :=
  C.ld .slice 1 (x0.add 1) fun v10 =>
  C.ld (.int .u8) 1 (x0.add 0) fun v15 =>
  cond (v15 == 2) (
    cond ((v10.n : Int) == 64) (
      C.ld .slice 1 (x0.add 1) fun v23 =>
      C.call n_spec_l05Keys [(.slice v23.a v23.n v23.c), (.int .i64 0), (.int .i64 2)] [.slice] fun r24 =>
      C.ret (.slice r24.a r24.n r24.c)
    ) (
      C.sem (Instr.buildSlice ty_sl_impl_Key 0 #[]) .slice fun y102 =>
      C.ret (.slice y102.a y102.n y102.c)
    )
  ) (
    cond (v15 == 5) (
      C.sem (Instr.buildSlice ty_sl_impl_Key 0 #[]) .slice fun y27 =>
      C.ld .slice 1 (x0.add 1) fun v32 =>
      C.call n_spec_l04Read [(.slice v32.a v32.n v32.c)] [.agg, .bool] fun r33 =>
      C.new ty_impl_MapNode (.agg (#[(.int .u8 0), (.int .u8 0), (.int .u8 0), (.int .u8 0), (.int .u8 0), (.int .u8 0), (.int .u8 0), (.int .u8 0), (.int .u8 0), (.int .u8 0), (.int .u8 0), (.int .u8 0), (.int .u8 0), (.int .u8 0), (.int .u8 0), (.int .u8 0), (.int .u8 0), (.int .u8 0), (.int .u8 0), (.int .u8 0), (.int .u8 0), (.int .u8 0), (.int .u8 0), (.int .u8 0), (.int .u8 0), (.int .u8 0), (.int .u8 0), (.int .u8 0), (.int .u8 0), (.int .u8 0), (.int .u8 0), (.int .u8 0), (.int .u8 0), (.int .u8 0), (.int .u8 0), (.int .u8 0), (.int .u8 0), (.int .u8 0), (.int .u8 0), (.int .u8 0), (.int .u8 0), (.int .u8 0), (.int .u8 0), (.int .u8 0), (.int .u8 0), (.int .u8 0), (.int .u8 0), (.int .u8 0), (.int .u8 0), (.int .u8 0), (.int .u8 0), (.int .u8 0), (.int .u8 0), (.int .u8 0), (.int .u8 0), (.int .u8 0), (.int .u8 0), (.int .u8 0), (.int .u8 0), (.int .u8 0), (.int .u8 0), (.int .u8 0), (.int .u8 0), (.int .u8 0), (.string (⟨#[]⟩ : ByteArray)), (.string (⟨#[]⟩ : ByteArray))])) fun b5 =>
      C.st 66 (Addr.mk b5 0 none) (.agg r33.1) <|
      C.join (TL [.slice]) (embL [.slice]) (fun s22 => C.any fun _ =>
          C.draw <|
          cond r33.2 (
            C.all [
              (C.ld .agg 32 ((Addr.mk b5 0 none).add 32) fun v51 =>
               C.call n_spec_l04Empty [] [.agg] fun r52 =>
               C.pur (eqB .neq ty_impl_Key (.tmp 51) (.tmp 52) (.agg v51) (.agg r52)) .bool fun y53 =>
               cond y53 (
                 C.ld .agg 32 ((Addr.mk b5 0 none).add 32) fun v57 =>
                 C.sem (Instr.buildSlice ty_sl_impl_Key 1 #[(0, (.agg v57))]) .slice fun y58 =>
                 C.sem (Builtin.append_ #[ty_sl_impl_Key, ty_sl_impl_Key] ty_sl_impl_Key #[(.slice s22.a s22.n s22.c), (.slice y58.a y58.n y58.c)]) .slice fun y59 =>
                 C.ret (.slice y59.a y59.n y59.c)
               ) (
                 C.ret (.slice s22.a s22.n s22.c)
               )),
              (C.call n_spec_l04Empty [] [.agg] fun r52 =>
               C.ld .agg 32 ((Addr.mk b5 0 none).add 32) fun v51 =>
               C.pur (eqB .neq ty_impl_Key (.tmp 51) (.tmp 52) (.agg v51) (.agg r52)) .bool fun y53 =>
               cond y53 (
                 C.ld .agg 32 ((Addr.mk b5 0 none).add 32) fun v57 =>
                 C.sem (Instr.buildSlice ty_sl_impl_Key 1 #[(0, (.agg v57))]) .slice fun y58 =>
                 C.sem (Builtin.append_ #[ty_sl_impl_Key, ty_sl_impl_Key] ty_sl_impl_Key #[(.slice s22.a s22.n s22.c), (.slice y58.a y58.n y58.c)]) .slice fun y59 =>
                 C.ret (.slice y59.a y59.n y59.c)
               ) (
                 C.ret (.slice s22.a s22.n s22.c)
               ))]
          ) (
            C.all [
              (C.ret (.slice s22.a s22.n s22.c)),
              (C.ret (.slice s22.a s22.n s22.c))]
          )
        ) fun jt =>
      C.draw <|
      cond r33.2 (
        C.all [
          (C.ld .agg 32 ((Addr.mk b5 0 none).add 0) fun v39 =>
           C.call n_spec_l04Empty [] [.agg] fun r40 =>
           C.pur (eqB .neq ty_impl_Key (.tmp 39) (.tmp 40) (.agg v39) (.agg r40)) .bool fun y41 =>
           cond y41 (
             C.ld .agg 32 ((Addr.mk b5 0 none).add 0) fun v45 =>
             C.sem (Instr.buildSlice ty_sl_impl_Key 1 #[(0, (.agg v45))]) .slice fun y46 =>
             C.sem (Builtin.append_ #[ty_sl_impl_Key, ty_sl_impl_Key] ty_sl_impl_Key #[(.slice y27.a y27.n y27.c), (.slice y46.a y46.n y46.c)]) .slice fun y47 =>
             jt [(.slice y47.a y47.n y47.c)]
           ) (
             jt [(.slice y27.a y27.n y27.c)]
           )),
          (C.call n_spec_l04Empty [] [.agg] fun r40 =>
           C.ld .agg 32 ((Addr.mk b5 0 none).add 0) fun v39 =>
           C.pur (eqB .neq ty_impl_Key (.tmp 39) (.tmp 40) (.agg v39) (.agg r40)) .bool fun y41 =>
           cond y41 (
             C.ld .agg 32 ((Addr.mk b5 0 none).add 0) fun v45 =>
             C.sem (Instr.buildSlice ty_sl_impl_Key 1 #[(0, (.agg v45))]) .slice fun y46 =>
             C.sem (Builtin.append_ #[ty_sl_impl_Key, ty_sl_impl_Key] ty_sl_impl_Key #[(.slice y27.a y27.n y27.c), (.slice y46.a y46.n y46.c)]) .slice fun y47 =>
             jt [(.slice y47.a y47.n y47.c)]
           ) (
             jt [(.slice y27.a y27.n y27.c)]
           ))]
      ) (
        C.all [
          (jt [(.slice y27.a y27.n y27.c)]),
          (jt [(.slice y27.a y27.n y27.c)])]
      )
    ) (
      cond (v15 == 6) (
        cond ((Int.tmod (v10.n : Int) 32) == 0) (
          C.ld .slice 1 (x0.add 1) fun v69 =>
          C.call n_spec_l05Keys [(.slice v69.a v69.n v69.c), (.int .i64 0), (.int .i64 (IntKind.wrap .i64 (Int.tdiv (v10.n : Int) 32)))] [.slice] fun r72 =>
          C.ret (.slice r72.a r72.n r72.c)
        ) (
          C.sem (Instr.buildSlice ty_sl_impl_Key 0 #[]) .slice fun y102 =>
          C.ret (.slice y102.a y102.n y102.c)
        )
      ) (
        cond (v15 == 7) (
          C.join (TL [.bool]) (embL [.bool]) (fun s41 => C.any fun _ =>
              cond s41 (
                C.draw <|
                C.ld .slice 1 (x0.add 1) fun v93 =>
                C.ld .slice 1 (x0.add 1) fun v97 =>
                C.ix v97.a v97.n 1 0 fun p98 =>
                C.ld (.int .u8) 1 p98 fun v99 =>
                C.call n_spec_l05Keys [(.slice v93.a v93.n v93.c), (.int .i64 1), (.int .i64 (IntKind.wrap .i64 (v99)))] [.slice] fun r101 =>
                C.chk [⟨9, 1, p98, (.int .u8), v99⟩, ⟨7, 1, (x0.add 1), .slice, v97⟩] <|
                C.ret (.slice r101.a r101.n r101.c)
              ) (
                C.sem (Instr.buildSlice ty_sl_impl_Key 0 #[]) .slice fun y102 =>
                C.ret (.slice y102.a y102.n y102.c)
              )
            ) fun jt =>
          cond (decide ((v10.n : Int) > 0)) (
            C.ld .slice 1 (x0.add 1) fun v82 =>
            C.ix v82.a v82.n 1 0 fun p83 =>
            C.ld (.int .u8) 1 p83 fun v84 =>
            jt [(.bool (decide ((v10.n : Int) ≥ (IntKind.wrap .i64 (1 + (IntKind.wrap .i64 (32 * (IntKind.wrap .i64 (v84)))))))))]
          ) (
            jt [(.bool false)]
          )
        ) (
          C.sem (Instr.buildSlice ty_sl_impl_Key 0 #[]) .slice fun y102 =>
          C.ret (.slice y102.a y102.n y102.c)
        )
      )
    )
  )
theorem spec_l05Links_eq (C : Comb) (x0 : Addr) : fT C Tryz.prog { loop := [], join := [(126, [(4, .slice)]), (55, [(89, .bool)])], anyOrder := [9, 11, 19], pure := [] } n_spec_l05Links [(.pointer (some x0))] = spec_l05Links C x0 := by kernel_rfl
theorem spec_l05Links_calls {R : Value → World → Prop} {w : World} (x0 : Addr) (h : (spec_l05Links (real Tryz.prog R) x0 : World → Prop) w) :
    Calls Tryz.prog n_spec_l05Links [(.pointer (some x0))].toArray w fun e w' => ∃ v, e = .returned v ∧ R v w' := fT_sound mixed { loop := [], join := [(126, [(4, .slice)]), (55, [(89, .bool)])], anyOrder := [9, 11, 19], pure := [] } (by rw [spec_l05Links_eq]; exact h)

/-- spec.l01Has (53) -/
def spec_l01Has (C : Comb) (x0 : Sl) (x1 : Array Value) : C.St :=
  C.new ty_impl_Key (.agg x1) fun b3 =>
  C.loop (TL [(.int .i64)]) (embL [(.int .i64)]) [(.int .i64 0)] fun s2 ct2 => C.any fun _ =>
  cond (decide (s2 < (x0.n : Int))) (
    C.draw <|
    C.ix x0.a x0.n 32 s2 fun p14 =>
    C.ld .agg 32 p14 fun v15 =>
    C.ld .agg 32 (Addr.mk b3 0 none) fun v16 =>
    C.pur (eqB .eql ty_impl_Key (.tmp 15) (.tmp 16) (.agg v15) (.agg v16)) .bool fun y17 =>
    cond y17 (
      C.ret (.bool true)
    ) (
      ct2 [(.int .i64 (IntKind.wrap .i64 (s2 + 1)))]
    )
  ) (
    C.ret (.bool false)
  )
theorem spec_l01Has_eq (C : Comb) (x0 : Sl) (x1 : Array Value) : fT C Tryz.prog { loop := [(2, [(5, (.int .i64))])], join := [], anyOrder := [], pure := [] } n_spec_l01Has [(.slice x0.a x0.n x0.c), (.agg x1)] = spec_l01Has C x0 x1 := by kernel_rfl
theorem spec_l01Has_calls {R : Value → World → Prop} {w : World} (x0 : Sl) (x1 : Array Value) (h : (spec_l01Has (real Tryz.prog R) x0 x1 : World → Prop) w) :
    Calls Tryz.prog n_spec_l01Has [(.slice x0.a x0.n x0.c), (.agg x1)].toArray w fun e w' => ∃ v, e = .returned v ∧ R v w' := fT_sound mixed { loop := [(2, [(5, (.int .i64))])], join := [], anyOrder := [], pure := [] } (by rw [spec_l01Has_eq]; exact h)

/-- laws.toBlobS (54) -/
def laws_toBlobS (C : Comb) (x0 : Sl) : C.St :=
  C.sem (Instr.makeSlice ty_sl_impl_Blob (.int .i64 (x0.n : Int)) (.int .i64 (x0.n : Int))) .slice fun y7 =>
  C.loop (TL [(.int .i64)]) (embL [(.int .i64)]) [(.int .i64 0)] fun s2 ct2 => C.any fun _ =>
  cond (decide (s2 < (x0.n : Int))) (
    C.ix x0.a x0.n 2 s2 fun p18 =>
    C.ld .agg 2 p18 fun v19 =>
    C.call n_laws_toBlob [(.agg v19)] [.agg] fun r20 =>
    C.ix y7.a y7.n 2 s2 fun p21 =>
    C.st 2 p21 (.agg r20) <|
    ct2 [(.int .i64 (IntKind.wrap .i64 (s2 + 1)))]
  ) (
    C.ret (.slice y7.a y7.n y7.c)
  )
theorem laws_toBlobS_eq (C : Comb) (x0 : Sl) : fT C Tryz.prog { loop := [(3, [(4, (.int .i64))])], join := [], anyOrder := [], pure := [] } n_laws_toBlobS [(.slice x0.a x0.n x0.c)] = laws_toBlobS C x0 := by kernel_rfl
theorem laws_toBlobS_calls {R : Value → World → Prop} {w : World} (x0 : Sl) (h : (laws_toBlobS (real Tryz.prog R) x0 : World → Prop) w) :
    Calls Tryz.prog n_laws_toBlobS [(.slice x0.a x0.n x0.c)].toArray w fun e w' => ∃ v, e = .returned v ∧ R v w' := fT_sound mixed { loop := [(3, [(4, (.int .i64))])], join := [], anyOrder := [], pure := [] } (by rw [laws_toBlobS_eq]; exact h)

/-- impl.newShop (55) -/
def impl_newShop (C : Comb) (x0 : Array Value) : C.St :=
  C.new ty_impl_Store (.agg x0) fun b1 =>
  C.ld .agg 1 (Addr.mk b1 0 none) fun v4 =>
  C.call n_impl_ValidStore [(.agg v4)] [.bool] fun r5 =>
  cond (!r5) (
    C.ret (.tuple #[(.pointer none), (.bool false)])
  ) (
    C.draw <|
    C.ld .agg 1 (Addr.mk b1 0 none) fun v7 =>
    C.ld .slice 1 ((Addr.mk b1 0 none).add 0) fun v10 =>
    C.call n_impl_Store_keys [(.agg v7)] [.slice] fun r8 =>
    C.chk [⟨3, 1, ((Addr.mk b1 0 none).add 0), .slice, v10⟩] <|
    C.call n_slices_Clone_sl_impl_Blob_impl_Blob [(.slice v10.a v10.n v10.c)] [.slice] fun r11 =>
    C.pur (Instr.build ty_impl_shop #[(0, (.slice r8.a r8.n r8.c)), (1, (.slice r11.a r11.n r11.c))]) .agg fun y12 =>
    C.new ty_impl_shop (.agg y12) fun b13 =>
    C.ret (.tuple #[(.pointer (some (Addr.mk b13 0 none))), (.bool true)])
  )
theorem impl_newShop_eq (C : Comb) (x0 : Array Value) : fT C Tryz.prog { loop := [], join := [], anyOrder := [3], pure := [] } n_impl_newShop [(.agg x0)] = impl_newShop C x0 := by kernel_rfl
theorem impl_newShop_calls {R : Value → World → Prop} {w : World} (x0 : Array Value) (h : (impl_newShop (real Tryz.prog R) x0 : World → Prop) w) :
    Calls Tryz.prog n_impl_newShop [(.agg x0)].toArray w fun e w' => ∃ v, e = .returned v ∧ R v w' := fT_sound mixed { loop := [], join := [], anyOrder := [3], pure := [] } (by rw [impl_newShop_eq]; exact h)

/-- (*impl.shop).has (56) -/
def ptr_impl_shop_has (C : Comb) (x0 : Addr) (x1 : Array Value) : C.St :=
  C.new ty_impl_Key (.agg x1) fun b3 =>
  C.ld .agg 32 (Addr.mk b3 0 none) fun v9 =>
  C.call n_ptr_impl_shop_find [(.pointer (some x0)), (.agg v9)] [(.int .i64), .bool] fun r10 =>
  C.ret (.bool r10.2)
theorem ptr_impl_shop_has_eq (C : Comb) (x0 : Addr) (x1 : Array Value) : fT C Tryz.prog { loop := [], join := [], anyOrder := [], pure := [] } n_ptr_impl_shop_has [(.pointer (some x0)), (.agg x1)] = ptr_impl_shop_has C x0 x1 := by kernel_rfl
theorem ptr_impl_shop_has_calls {R : Value → World → Prop} {w : World} (x0 : Addr) (x1 : Array Value) (h : (ptr_impl_shop_has (real Tryz.prog R) x0 x1 : World → Prop) w) :
    Calls Tryz.prog n_ptr_impl_shop_has [(.pointer (some x0)), (.agg x1)].toArray w fun e w' => ∃ v, e = .returned v ∧ R v w' := fT_sound mixed { loop := [], join := [], anyOrder := [], pure := [] } (by rw [ptr_impl_shop_has_eq]; exact h)

/-- (*impl.shop).get (57) -/
def ptr_impl_shop_get (C : Comb) (x0 : Addr) (x1 : Array Value) : C.St :=
  C.new ty_impl_Key (.agg x1) fun b3 =>
  C.new ty_impl_Blob (.agg (#[(.int .u8 0), (.slice none 0 0)])) fun b4 =>
  C.ld .agg 32 (Addr.mk b3 0 none) fun v10 =>
  C.call n_ptr_impl_shop_find [(.pointer (some x0)), (.agg v10)] [(.int .i64), .bool] fun r11 =>
  cond (!r11.2) (
    C.pur (Instr.build ty_impl_Blob #[]) .agg fun y16 =>
    C.st 2 (Addr.mk b4 0 none) (.agg y16) <|
    C.ld .agg 2 (Addr.mk b4 0 none) fun z6 =>
    C.ret (.tuple #[(.agg z6), (.bool false)])
  ) (
    C.ld .slice 1 (x0.add 1) fun v20 =>
    C.ix v20.a v20.n 2 r11.1 fun p22 =>
    C.ld .agg 2 p22 fun v23 =>
    C.st 2 (Addr.mk b4 0 none) (.agg v23) <|
    C.ld .agg 2 (Addr.mk b4 0 none) fun z10 =>
    C.ret (.tuple #[(.agg z10), (.bool true)])
  )
theorem ptr_impl_shop_get_eq (C : Comb) (x0 : Addr) (x1 : Array Value) : fT C Tryz.prog { loop := [], join := [], anyOrder := [], pure := [] } n_ptr_impl_shop_get [(.pointer (some x0)), (.agg x1)] = ptr_impl_shop_get C x0 x1 := by kernel_rfl
theorem ptr_impl_shop_get_calls {R : Value → World → Prop} {w : World} (x0 : Addr) (x1 : Array Value) (h : (ptr_impl_shop_get (real Tryz.prog R) x0 x1 : World → Prop) w) :
    Calls Tryz.prog n_ptr_impl_shop_get [(.pointer (some x0)), (.agg x1)].toArray w fun e w' => ∃ v, e = .returned v ∧ R v w' := fT_sound mixed { loop := [], join := [], anyOrder := [], pure := [] } (by rw [ptr_impl_shop_get_eq]; exact h)

/-- (impl.Blob).links (58) -/
def impl_Blob_links (C : Comb) (x0 : Array Value) : C.St :=
  C.new ty_impl_Blob (.agg x0) fun b1 =>
  C.ld .slice 1 ((Addr.mk b1 0 none).add 1) fun v8 =>
  C.ld (.int .u8) 1 ((Addr.mk b1 0 none).add 0) fun v11 =>
  cond (v11 == 2) (
    cond ((v8.n : Int) == 64) (
      C.ld .slice 1 ((Addr.mk b1 0 none).add 1) fun v17 =>
      C.call n_impl_keysIn [(.slice v17.a v17.n v17.c)] [.slice] fun r18 =>
      C.ret (.slice r18.a r18.n r18.c)
    ) (
      C.ret (.slice none 0 0)
    )
  ) (
    cond (v11 == 5) (
      C.ld .slice 1 ((Addr.mk b1 0 none).add 1) fun v23 =>
      C.call n_impl_ReadMapNode [(.slice v23.a v23.n v23.c)] [.agg, (.int .i64)] fun r24 =>
      C.new ty_impl_MapNode (.agg (#[(.int .u8 0), (.int .u8 0), (.int .u8 0), (.int .u8 0), (.int .u8 0), (.int .u8 0), (.int .u8 0), (.int .u8 0), (.int .u8 0), (.int .u8 0), (.int .u8 0), (.int .u8 0), (.int .u8 0), (.int .u8 0), (.int .u8 0), (.int .u8 0), (.int .u8 0), (.int .u8 0), (.int .u8 0), (.int .u8 0), (.int .u8 0), (.int .u8 0), (.int .u8 0), (.int .u8 0), (.int .u8 0), (.int .u8 0), (.int .u8 0), (.int .u8 0), (.int .u8 0), (.int .u8 0), (.int .u8 0), (.int .u8 0), (.int .u8 0), (.int .u8 0), (.int .u8 0), (.int .u8 0), (.int .u8 0), (.int .u8 0), (.int .u8 0), (.int .u8 0), (.int .u8 0), (.int .u8 0), (.int .u8 0), (.int .u8 0), (.int .u8 0), (.int .u8 0), (.int .u8 0), (.int .u8 0), (.int .u8 0), (.int .u8 0), (.int .u8 0), (.int .u8 0), (.int .u8 0), (.int .u8 0), (.int .u8 0), (.int .u8 0), (.int .u8 0), (.int .u8 0), (.int .u8 0), (.int .u8 0), (.int .u8 0), (.int .u8 0), (.int .u8 0), (.int .u8 0), (.string (⟨#[]⟩ : ByteArray)), (.string (⟨#[]⟩ : ByteArray))])) fun b4 =>
      C.st 66 (Addr.mk b4 0 none) (.agg r24.1) <|
      cond (r24.2 == 0) (
        C.call n_impl_EmptyMapKey [] [.agg] fun r29 =>
        C.new ty_impl_Key (.agg (Array.replicate 32 (.int .u8 0))) fun b6 =>
        C.st 32 (Addr.mk b6 0 none) (.agg r29) <|
        C.ld .agg 32 ((Addr.mk b4 0 none).add 0) fun v31 =>
        C.ld .agg 32 ((Addr.mk b4 0 none).add 32) fun v33 =>
        C.sem (Instr.buildSlice ty_sl_impl_Key 2 #[(0, (.agg v31)), (1, (.agg v33))]) .slice fun y34 =>
        C.call n_slices_DeleteFunc_sl_impl_Key_impl_Key [(.slice y34.a y34.n y34.c), (.func (.func n_impl_Blob_links_1) #[] #[(.pointer (some (Addr.mk b6 0 none)))])] [.slice] fun r36 =>
        C.ret (.slice r36.a r36.n r36.c)
      ) (
        C.ret (.slice none 0 0)
      )
    ) (
      cond (v11 == 6) (
        cond ((Int.tmod (v8.n : Int) 32) == 0) (
          C.ld .slice 1 ((Addr.mk b1 0 none).add 1) fun v43 =>
          C.call n_impl_keysIn [(.slice v43.a v43.n v43.c)] [.slice] fun r44 =>
          C.ret (.slice r44.a r44.n r44.c)
        ) (
          C.ret (.slice none 0 0)
        )
      ) (
        cond (v11 == 7) (
          C.join (TL [.bool]) (embL [.bool]) (fun s20 => C.any fun _ =>
              cond s20 (
                C.draw <|
                C.ld .slice 1 ((Addr.mk b1 0 none).add 1) fun v61 =>
                C.ld .slice 1 ((Addr.mk b1 0 none).add 1) fun v63 =>
                C.ix v63.a v63.n 1 0 fun p64 =>
                C.ld (.int .u8) 1 p64 fun v65 =>
                C.sl v61.a v61.n v61.c 1 (some 1) (some (IntKind.wrap .i64 (1 + (IntKind.wrap .i64 (32 * (IntKind.wrap .i64 (v65))))))) none fun y69 =>
                C.call n_impl_keysIn [(.slice y69.a y69.n y69.c)] [.slice] fun r70 =>
                C.chk [⟨5, 1, p64, (.int .u8), v65⟩, ⟨3, 1, ((Addr.mk b1 0 none).add 1), .slice, v63⟩, ⟨1, 1, ((Addr.mk b1 0 none).add 1), .slice, v61⟩] <|
                C.ret (.slice r70.a r70.n r70.c)
              ) (
                C.ret (.slice none 0 0)
              )
            ) fun jt =>
          cond (decide ((v8.n : Int) > 0)) (
            C.ld .slice 1 ((Addr.mk b1 0 none).add 1) fun v52 =>
            C.ix v52.a v52.n 1 0 fun p53 =>
            C.ld (.int .u8) 1 p53 fun v54 =>
            jt [(.bool (decide ((v8.n : Int) ≥ (IntKind.wrap .i64 (1 + (IntKind.wrap .i64 (32 * (IntKind.wrap .i64 (v54)))))))))]
          ) (
            jt [(.bool false)]
          )
        ) (
          C.ret (.slice none 0 0)
        )
      )
    )
  )
theorem impl_Blob_links_eq (C : Comb) (x0 : Array Value) : fT C Tryz.prog { loop := [], join := [(46, [(59, .bool)])], anyOrder := [16], pure := [] } n_impl_Blob_links [(.agg x0)] = impl_Blob_links C x0 := by kernel_rfl
theorem impl_Blob_links_calls {R : Value → World → Prop} {w : World} (x0 : Array Value) (h : (impl_Blob_links (real Tryz.prog R) x0 : World → Prop) w) :
    Calls Tryz.prog n_impl_Blob_links [(.agg x0)].toArray w fun e w' => ∃ v, e = .returned v ∧ R v w' := fT_sound mixed { loop := [], join := [(46, [(59, .bool)])], anyOrder := [16], pure := [] } (by rw [impl_Blob_links_eq]; exact h)

/-- slices.Reverse[[]impl.Key,impl.Key] (59) -/
def slices_Reverse_sl_impl_Key_impl_Key (C : Comb) (x0 : Sl) : C.St :=
  C.loop (TL [(.int .i64), (.int .i64)]) (embL [(.int .i64), (.int .i64)]) [(.int .i64 0), (.int .i64 (IntKind.wrap .i64 ((x0.n : Int) - 1)))] fun s1 ct1 => C.any fun _ =>
  cond (decide (s1.1 < s1.2)) (
    C.draw <|
    C.ix x0.a x0.n 32 s1.2 fun p20 =>
    C.ld .agg 32 p20 fun v21 =>
    C.ix x0.a x0.n 32 s1.1 fun p24 =>
    C.ld .agg 32 p24 fun v25 =>
    C.ix x0.a x0.n 32 s1.1 fun p26 =>
    C.st 32 p26 (.agg v21) <|
    C.ix x0.a x0.n 32 s1.2 fun p27 =>
    C.st 32 p27 (.agg v25) <|
    ct1 [(.int .i64 (IntKind.wrap .i64 (s1.1 + 1))), (.int .i64 (IntKind.wrap .i64 (s1.2 - 1)))]
  ) (
    C.ret (.tuple #[])
  )
theorem slices_Reverse_sl_impl_Key_impl_Key_eq (C : Comb) (x0 : Sl) : fT C Tryz.prog { loop := [(1, [(2, (.int .i64)), (3, (.int .i64))])], join := [], anyOrder := [3], pure := [] } n_slices_Reverse_sl_impl_Key_impl_Key [(.slice x0.a x0.n x0.c)] = slices_Reverse_sl_impl_Key_impl_Key C x0 := by kernel_rfl
theorem slices_Reverse_sl_impl_Key_impl_Key_calls {R : Value → World → Prop} {w : World} (x0 : Sl) (h : (slices_Reverse_sl_impl_Key_impl_Key (real Tryz.prog R) x0 : World → Prop) w) :
    Calls Tryz.prog n_slices_Reverse_sl_impl_Key_impl_Key [(.slice x0.a x0.n x0.c)].toArray w fun e w' => ∃ v, e = .returned v ∧ R v w' := fT_sound mixed { loop := [(1, [(2, (.int .i64)), (3, (.int .i64))])], join := [], anyOrder := [3], pure := [] } (by rw [slices_Reverse_sl_impl_Key_impl_Key_eq]; exact h)

/-- laws.eqKey (60) -/
def laws_eqKey (C : Comb) (x0 : Array Value) (x1 : Array Value) : C.St :=
  C.new ty_impl_Key (.agg x0) fun b2 =>
  C.new ty_impl_Key (.agg x1) fun b3 =>
  C.loop (TL [(.int .i64)]) (embL [(.int .i64)]) [(.int .i64 0)] fun s3 ct3 => C.any fun _ =>
  cond (decide (s3 < 32)) (
    C.draw <|
    C.ix (some (Addr.mk b2 0 none)) 32 1 s3 fun p11 =>
    C.ld (.int .u8) 1 p11 fun v12 =>
    C.ix (some (Addr.mk b3 0 none)) 32 1 s3 fun p14 =>
    C.ld (.int .u8) 1 p14 fun v15 =>
    cond (v12 != v15) (
      C.ret (.bool false)
    ) (
      ct3 [(.int .i64 (IntKind.wrap .i64 (s3 + 1)))]
    )
  ) (
    C.ret (.bool true)
  )
theorem laws_eqKey_eq (C : Comb) (x0 : Array Value) (x1 : Array Value) : fT C Tryz.prog { loop := [(2, [(5, (.int .i64))])], join := [], anyOrder := [], pure := [] } n_laws_eqKey [(.agg x0), (.agg x1)] = laws_eqKey C x0 x1 := by kernel_rfl
theorem laws_eqKey_calls {R : Value → World → Prop} {w : World} (x0 : Array Value) (x1 : Array Value) (h : (laws_eqKey (real Tryz.prog R) x0 x1 : World → Prop) w) :
    Calls Tryz.prog n_laws_eqKey [(.agg x0), (.agg x1)].toArray w fun e w' => ∃ v, e = .returned v ∧ R v w' := fT_sound mixed { loop := [(2, [(5, (.int .i64))])], join := [], anyOrder := [], pure := [] } (by rw [laws_eqKey_eq]; exact h)

/-- laws.eqBlobS (61) -/
def laws_eqBlobS (C : Comb) (x0 : Sl) (x1 : Sl) : C.St :=
  cond ((x0.n : Int) != (x1.n : Int)) (
    C.ret (.bool false)
  ) (
    C.loop (TL [(.int .i64)]) (embL [(.int .i64)]) [(.int .i64 0)] fun s1 ct1 => C.any fun _ =>
    cond (decide (s1 < (x0.n : Int))) (
      C.draw <|
      C.ix x0.a x0.n 2 s1 fun p19 =>
      C.ld .agg 2 p19 fun v20 =>
      C.ix x1.a x1.n 2 s1 fun p23 =>
      C.ld .agg 2 p23 fun v24 =>
      C.call n_laws_eqBlob [(.agg v20), (.agg v24)] [.bool] fun r25 =>
      cond (!r25) (
        C.ret (.bool false)
      ) (
        ct1 [(.int .i64 (IntKind.wrap .i64 (s1 + 1)))]
      )
    ) (
      C.ret (.bool true)
    )
  )
theorem laws_eqBlobS_eq (C : Comb) (x0 : Sl) (x1 : Sl) : fT C Tryz.prog { loop := [(4, [(5, (.int .i64))])], join := [], anyOrder := [6], pure := [] } n_laws_eqBlobS [(.slice x0.a x0.n x0.c), (.slice x1.a x1.n x1.c)] = laws_eqBlobS C x0 x1 := by kernel_rfl
theorem laws_eqBlobS_calls {R : Value → World → Prop} {w : World} (x0 : Sl) (x1 : Sl) (h : (laws_eqBlobS (real Tryz.prog R) x0 x1 : World → Prop) w) :
    Calls Tryz.prog n_laws_eqBlobS [(.slice x0.a x0.n x0.c), (.slice x1.a x1.n x1.c)].toArray w fun e w' => ∃ v, e = .returned v ∧ R v w' := fT_sound mixed { loop := [(4, [(5, (.int .i64))])], join := [], anyOrder := [6], pure := [] } (by rw [laws_eqBlobS_eq]; exact h)

/-- laws.markBlobS (62) -/
def laws_markBlobS (C : Comb) (x0 : Sl) (x1 : Int) : C.St :=
  C.loop (TL [(.int .i64), (.int .i64)]) (embL [(.int .i64), (.int .i64)]) [(.int .i64 x1), (.int .i64 0)] fun s1 ct1 => C.any fun _ =>
  cond (decide (s1.2 < (x0.n : Int))) (
    C.ix x0.a x0.n 2 s1.2 fun p16 =>
    C.st 1 (p16.add 0) (.int .u8 (IntKind.wrap .u8 (s1.1))) <|
    C.ix x0.a x0.n 2 s1.2 fun p22 =>
    C.ld .slice 1 (p22.add 1) fun v24 =>
    C.call n_laws_markByteS [(.slice v24.a v24.n v24.c), (.int .i64 (IntKind.wrap .i64 (s1.1 + 1)))] [(.int .i64)] fun r26 =>
    ct1 [(.int .i64 r26), (.int .i64 (IntKind.wrap .i64 (s1.2 + 1)))]
  ) (
    C.ret (.int .i64 s1.1)
  )
theorem laws_markBlobS_eq (C : Comb) (x0 : Sl) (x1 : Int) : fT C Tryz.prog { loop := [(2, [(1, (.int .i64)), (5, (.int .i64))])], join := [], anyOrder := [], pure := [] } n_laws_markBlobS [(.slice x0.a x0.n x0.c), (.int .i64 x1)] = laws_markBlobS C x0 x1 := by kernel_rfl
theorem laws_markBlobS_calls {R : Value → World → Prop} {w : World} (x0 : Sl) (x1 : Int) (h : (laws_markBlobS (real Tryz.prog R) x0 x1 : World → Prop) w) :
    Calls Tryz.prog n_laws_markBlobS [(.slice x0.a x0.n x0.c), (.int .i64 x1)].toArray w fun e w' => ∃ v, e = .returned v ∧ R v w' := fT_sound mixed { loop := [(2, [(1, (.int .i64)), (5, (.int .i64))])], join := [], anyOrder := [], pure := [] } (by rw [laws_markBlobS_eq]; exact h)

/-- spec.l05Asked (63) -/
def spec_l05Asked (C : Comb) (x0 : Addr) (x1 : Sl) : C.St :=
  C.call n_spec_l05Open [(.pointer (some x0))] [.optr, .bool] fun r10 =>
  cond (!r10.2) (
    C.ret (.tuple #[(.pointer r10.1), (.int .i64 1)])
  ) (
    cond (decide ((x1.n : Int) > 256)) (
      C.ret (.tuple #[(.pointer r10.1), (.int .i64 3)])
    ) (
      C.ret (.tuple #[(.pointer r10.1), (.int .i64 0)])
    )
  )
theorem spec_l05Asked_eq (C : Comb) (x0 : Addr) (x1 : Sl) : fT C Tryz.prog { loop := [], join := [], anyOrder := [], pure := [] } n_spec_l05Asked [(.pointer (some x0)), (.slice x1.a x1.n x1.c)] = spec_l05Asked C x0 x1 := by kernel_rfl
theorem spec_l05Asked_calls {R : Value → World → Prop} {w : World} (x0 : Addr) (x1 : Sl) (h : (spec_l05Asked (real Tryz.prog R) x0 x1 : World → Prop) w) :
    Calls Tryz.prog n_spec_l05Asked [(.pointer (some x0)), (.slice x1.a x1.n x1.c)].toArray w fun e w' => ∃ v, e = .returned v ∧ R v w' := fT_sound mixed { loop := [], join := [], anyOrder := [], pure := [] } (by rw [spec_l05Asked_eq]; exact h)

/-- (*spec.l05Store).reach (64) -/
def ptr_spec_l05Store_reach (C : Comb) (x0 : Addr) (x1 : Sl) : C.St :=
  C.ld .slice 1 (x0.add 1) fun v14 =>
  C.sem (Instr.makeSlice ty_sl_bool (.int .i64 (v14.n : Int)) (.int .i64 (v14.n : Int))) .slice fun y16 =>
  C.sem (Instr.buildSlice ty_sl_impl_Key 0 #[]) .slice fun y17 =>
  C.sem (Instr.buildSlice ty_sl_impl_Key 0 #[]) .slice fun y18 =>
  C.sem (Builtin.append_ #[ty_sl_impl_Key, ty_sl_impl_Key] ty_sl_impl_Key #[(.slice y18.a y18.n y18.c), (.slice x1.a x1.n x1.c)]) .slice fun y20 =>
  C.loop (TL [.slice, .slice, (.int .i64)]) (embL [.slice, .slice, (.int .i64)]) [(.slice y17.a y17.n y17.c), (.slice y20.a y20.n y20.c), (.int .i64 0)] fun s6 ct6 => C.any fun _ =>
  cond (decide (s6.2.2 < (s6.2.1.n : Int))) (
    C.ix s6.2.1.a s6.2.1.n 32 s6.2.2 fun p30 =>
    C.ld .agg 32 p30 fun v31 =>
    C.call n_ptr_spec_l05Store_find [(.pointer (some x0)), (.agg v31)] [(.int .i64)] fun r32 =>
    cond (decide (r32 < 0)) (
      C.ix s6.2.1.a s6.2.1.n 32 s6.2.2 fun p38 =>
      C.ld .agg 32 p38 fun v39 =>
      C.call n_spec_l01Has [(.slice s6.1.a s6.1.n s6.1.c), (.agg v39)] [.bool] fun r40 =>
      cond (!r40) (
        C.ix s6.2.1.a s6.2.1.n 32 s6.2.2 fun p45 =>
        C.ld .agg 32 p45 fun v46 =>
        C.sem (Instr.buildSlice ty_sl_impl_Key 1 #[(0, (.agg v46))]) .slice fun y47 =>
        C.sem (Builtin.append_ #[ty_sl_impl_Key, ty_sl_impl_Key] ty_sl_impl_Key #[(.slice s6.1.a s6.1.n s6.1.c), (.slice y47.a y47.n y47.c)]) .slice fun y48 =>
        ct6 [(.slice y48.a y48.n y48.c), (.slice s6.2.1.a s6.2.1.n s6.2.1.c), (.int .i64 (IntKind.wrap .i64 (s6.2.2 + 1)))]
      ) (
        ct6 [(.slice s6.1.a s6.1.n s6.1.c), (.slice s6.2.1.a s6.2.1.n s6.2.1.c), (.int .i64 (IntKind.wrap .i64 (s6.2.2 + 1)))]
      )
    ) (
      C.ix y16.a y16.n 1 r32 fun p51 =>
      C.ld .bool 1 p51 fun v52 =>
      cond (!v52) (
        C.ix y16.a y16.n 1 r32 fun p56 =>
        C.st 1 p56 (.bool true) <|
        C.ld .slice 1 (x0.add 0) fun v61 =>
        C.ix v61.a v61.n 2 r32 fun p63 =>
        C.call n_spec_l05Links [(.pointer (some p63))] [.slice] fun r64 =>
        C.sem (Builtin.append_ #[ty_sl_impl_Key, ty_sl_impl_Key] ty_sl_impl_Key #[(.slice s6.2.1.a s6.2.1.n s6.2.1.c), (.slice r64.a r64.n r64.c)]) .slice fun y65 =>
        ct6 [(.slice s6.1.a s6.1.n s6.1.c), (.slice y65.a y65.n y65.c), (.int .i64 (IntKind.wrap .i64 (s6.2.2 + 1)))]
      ) (
        ct6 [(.slice s6.1.a s6.1.n s6.1.c), (.slice s6.2.1.a s6.2.1.n s6.2.1.c), (.int .i64 (IntKind.wrap .i64 (s6.2.2 + 1)))]
      )
    )
  ) (
    C.ret (.tuple #[(.slice y16.a y16.n y16.c), (.slice s6.1.a s6.1.n s6.1.c)])
  )
theorem ptr_spec_l05Store_reach_eq (C : Comb) (x0 : Addr) (x1 : Sl) : fT C Tryz.prog { loop := [(5, [(7, .slice), (8, .slice), (9, (.int .i64))])], join := [], anyOrder := [], pure := [] } n_ptr_spec_l05Store_reach [(.pointer (some x0)), (.slice x1.a x1.n x1.c)] = ptr_spec_l05Store_reach C x0 x1 := by kernel_rfl
theorem ptr_spec_l05Store_reach_calls {R : Value → World → Prop} {w : World} (x0 : Addr) (x1 : Sl) (h : (ptr_spec_l05Store_reach (real Tryz.prog R) x0 x1 : World → Prop) w) :
    Calls Tryz.prog n_ptr_spec_l05Store_reach [(.pointer (some x0)), (.slice x1.a x1.n x1.c)].toArray w fun e w' => ∃ v, e = .returned v ∧ R v w' := fT_sound mixed { loop := [(5, [(7, .slice), (8, .slice), (9, (.int .i64))])], join := [], anyOrder := [], pure := [] } (by rw [ptr_spec_l05Store_reach_eq]; exact h)

/-- (*spec.l05Store).keep (65) -/
def ptr_spec_l05Store_keep (C : Comb) (x0 : Addr) (x1 : Sl) : C.St :=
  C.pur (Instr.build ty_spec_l05Store #[]) .agg fun y7 =>
  C.new ty_spec_l05Store (.agg y7) fun b8 =>
  C.loop (TL [(.int .i64)]) (embL [(.int .i64)]) [(.int .i64 0)] fun s3 ct3 => C.any fun _ =>
  cond (decide (s3 < (x1.n : Int))) (
    C.ix x1.a x1.n 1 s3 fun p17 =>
    C.ld .bool 1 p17 fun v18 =>
    cond v18 (
      C.join (TL []) (embL []) (fun s12 => C.any fun _ =>
          C.draw <|
          C.ld .slice 1 ((Addr.mk b8 0 none).add 1) fun v39 =>
          C.ld .slice 1 (x0.add 1) fun v43 =>
          C.ix v43.a v43.n 32 s3 fun p45 =>
          C.ld .agg 32 p45 fun v46 =>
          C.sem (Instr.buildSlice ty_sl_impl_Key 1 #[(0, (.agg v46))]) .slice fun y47 =>
          C.chk [⟨8, 1, (x0.add 1), .slice, v43⟩, ⟨4, 1, ((Addr.mk b8 0 none).add 1), .slice, v39⟩] <|
          C.sem (Builtin.append_ #[ty_sl_impl_Key, ty_sl_impl_Key] ty_sl_impl_Key #[(.slice v39.a v39.n v39.c), (.slice y47.a y47.n y47.c)]) .slice fun y48 =>
          C.chk [⟨8, 1, (x0.add 1), .slice, v43⟩] <|
          C.st 1 ((Addr.mk b8 0 none).add 1) (.slice y48.a y48.n y48.c) <|
          ct3 [(.int .i64 (IntKind.wrap .i64 (s3 + 1)))]
        ) fun jt =>
      C.draw <|
      C.ld .slice 1 ((Addr.mk b8 0 none).add 0) fun v23 =>
      C.ld .slice 1 (x0.add 0) fun v27 =>
      C.ix v27.a v27.n 2 s3 fun p29 =>
      C.ld .agg 2 p29 fun v30 =>
      C.sem (Instr.buildSlice ty_sl_impl_Blob 1 #[(0, (.agg v30))]) .slice fun y31 =>
      C.chk [⟨8, 1, (x0.add 0), .slice, v27⟩, ⟨4, 1, ((Addr.mk b8 0 none).add 0), .slice, v23⟩] <|
      C.sem (Builtin.append_ #[ty_sl_impl_Blob, ty_sl_impl_Blob] ty_sl_impl_Blob #[(.slice v23.a v23.n v23.c), (.slice y31.a y31.n y31.c)]) .slice fun y32 =>
      C.chk [⟨8, 1, (x0.add 0), .slice, v27⟩] <|
      C.st 1 ((Addr.mk b8 0 none).add 0) (.slice y32.a y32.n y32.c) <|
      jt []
    ) (
      ct3 [(.int .i64 (IntKind.wrap .i64 (s3 + 1)))]
    )
  ) (
    C.ret (.pointer (some (Addr.mk b8 0 none)))
  )
theorem ptr_spec_l05Store_keep_eq (C : Comb) (x0 : Addr) (x1 : Sl) : fT C Tryz.prog { loop := [(3, [(6, (.int .i64))])], join := [(19, [])], anyOrder := [6, 7], pure := [] } n_ptr_spec_l05Store_keep [(.pointer (some x0)), (.slice x1.a x1.n x1.c)] = ptr_spec_l05Store_keep C x0 x1 := by kernel_rfl
theorem ptr_spec_l05Store_keep_calls {R : Value → World → Prop} {w : World} (x0 : Addr) (x1 : Sl) (h : (ptr_spec_l05Store_keep (real Tryz.prog R) x0 x1 : World → Prop) w) :
    Calls Tryz.prog n_ptr_spec_l05Store_keep [(.pointer (some x0)), (.slice x1.a x1.n x1.c)].toArray w fun e w' => ∃ v, e = .returned v ∧ R v w' := fT_sound mixed { loop := [(3, [(6, (.int .i64))])], join := [(19, [])], anyOrder := [6, 7], pure := [] } (by rw [ptr_spec_l05Store_keep_eq]; exact h)

/-- impl.reachCode (66) -/
def impl_reachCode (C : Comb) (x0 : Array Value) (x1 : Sl) : C.St :=
  C.new ty_impl_Store (.agg x0) fun b2 =>
  C.ld .agg 1 (Addr.mk b2 0 none) fun v9 =>
  C.call n_impl_newShop [(.agg v9)] [.optr, .bool] fun r10 =>
  cond (!r10.2) (
    C.ret (.tuple #[(.pointer none), (.int .i64 1)])
  ) (
    C.call n_slices_ContainsFunc_sl_sl_impl_Key_sl_impl_Key [(.slice x1.a x1.n x1.c), (.func (.func n_impl_reachCode_1) #[] #[])] [.bool] fun r18 =>
    cond r18 (
      C.ret (.tuple #[(.pointer none), (.int .i64 3)])
    ) (
      C.ret (.tuple #[(.pointer r10.1), (.int .i64 0)])
    )
  )
theorem impl_reachCode_eq (C : Comb) (x0 : Array Value) (x1 : Sl) : fT C Tryz.prog { loop := [], join := [], anyOrder := [], pure := [] } n_impl_reachCode [(.agg x0), (.slice x1.a x1.n x1.c)] = impl_reachCode C x0 x1 := by kernel_rfl
theorem impl_reachCode_calls {R : Value → World → Prop} {w : World} (x0 : Array Value) (x1 : Sl) (h : (impl_reachCode (real Tryz.prog R) x0 x1 : World → Prop) w) :
    Calls Tryz.prog n_impl_reachCode [(.agg x0), (.slice x1.a x1.n x1.c)].toArray w fun e w' => ∃ v, e = .returned v ∧ R v w' := fT_sound mixed { loop := [], join := [], anyOrder := [], pure := [] } (by rw [impl_reachCode_eq]; exact h)

/-- (*impl.shop).reached (67) -/
def ptr_impl_shop_reached (C : Comb) (x0 : Addr) (x1 : Sl) (x2 : Bool) : C.St :=
  C.new ty_ptr_impl_shop (.pointer (some x0)) fun b3 =>
  C.new ty_bool (.bool x2) fun b5 =>
  C.ld .ptr 1 (Addr.mk b3 0 none) fun v7 =>
  C.call n_ptr_impl_shop_reach [(.pointer (some v7)), (.slice x1.a x1.n x1.c)] [.slice] fun r9 =>
  C.call n_slices_DeleteFunc_sl_impl_Key_impl_Key [(.slice r9.a r9.n r9.c), (.func (.func n_ptr_impl_shop_reached_1) #[] #[(.pointer (some (Addr.mk b3 0 none))), (.pointer (some (Addr.mk b5 0 none)))])] [.slice] fun r11 =>
  C.call n_impl_sorted [(.slice r11.a r11.n r11.c)] [.slice] fun r12 =>
  C.ret (.slice r12.a r12.n r12.c)
theorem ptr_impl_shop_reached_eq (C : Comb) (x0 : Addr) (x1 : Sl) (x2 : Bool) : fT C Tryz.prog { loop := [], join := [], anyOrder := [], pure := [] } n_ptr_impl_shop_reached [(.pointer (some x0)), (.slice x1.a x1.n x1.c), (.bool x2)] = ptr_impl_shop_reached C x0 x1 x2 := by kernel_rfl
theorem ptr_impl_shop_reached_calls {R : Value → World → Prop} {w : World} (x0 : Addr) (x1 : Sl) (x2 : Bool) (h : (ptr_impl_shop_reached (real Tryz.prog R) x0 x1 x2 : World → Prop) w) :
    Calls Tryz.prog n_ptr_impl_shop_reached [(.pointer (some x0)), (.slice x1.a x1.n x1.c), (.bool x2)].toArray w fun e w' => ∃ v, e = .returned v ∧ R v w' := fT_sound mixed { loop := [], join := [], anyOrder := [], pure := [] } (by rw [ptr_impl_shop_reached_eq]; exact h)

/-- spec.l05Ascending (68) -/
def spec_l05Ascending (C : Comb) (x0 : Sl) : C.St :=
  C.call n_spec_l01Sort [(.slice x0.a x0.n x0.c), (.agg (Array.replicate 32 (.int .u8 0)))] [.slice] fun r5 =>
  C.ret (.slice r5.a r5.n r5.c)
theorem spec_l05Ascending_eq (C : Comb) (x0 : Sl) : fT C Tryz.prog { loop := [], join := [], anyOrder := [], pure := [] } n_spec_l05Ascending [(.slice x0.a x0.n x0.c)] = spec_l05Ascending C x0 := by kernel_rfl
theorem spec_l05Ascending_calls {R : Value → World → Prop} {w : World} (x0 : Sl) (h : (spec_l05Ascending (real Tryz.prog R) x0 : World → Prop) w) :
    Calls Tryz.prog n_spec_l05Ascending [(.slice x0.a x0.n x0.c)].toArray w fun e w' => ∃ v, e = .returned v ∧ R v w' := fT_sound mixed { loop := [], join := [], anyOrder := [], pure := [] } (by rw [spec_l05Ascending_eq]; exact h)

/-- spec.l05Needed (69) -/
def spec_l05Needed (C : Comb) (x0 : Addr) (x1 : Sl) (x2 : Sl) (x3 : Int) : C.St :=
  C.call n_spec_l05Open [(.pointer (some x0))] [.optr, .bool] fun r20 =>
  C.join (TL [.bool]) (embL [.bool]) (fun s6 => C.any fun _ =>
      cond (!s6) (
        C.sem (Instr.buildSlice ty_sl_bool 0 #[]) .slice fun y39 =>
        C.ret (.tuple #[(.pointer r20.1), (.slice y39.a y39.n y39.c), (.int .i64 1)])
      ) (
        C.join (TL []) (embL []) (fun s10 => C.any fun _ =>
            C.call n_spec_l00In [(.int .i64 x3), (.int .i64 0), (.int .i64 1000000000000)] [.bool] fun r51 =>
            cond (!r51) (
              C.sem (Instr.buildSlice ty_sl_bool 0 #[]) .slice fun y54 =>
              C.ret (.tuple #[(.pointer r20.1), (.slice y54.a y54.n y54.c), (.int .i64 2)])
            ) (
              C.sem (Instr.buildSlice ty_sl_impl_Key 0 #[]) .slice fun y55 =>
              C.sem (Builtin.append_ #[ty_sl_impl_Key, ty_sl_impl_Key] ty_sl_impl_Key #[(.slice y55.a y55.n y55.c), (.slice x1.a x1.n x1.c)]) .slice fun y57 =>
              C.loop (TL [.slice, (.int .i64)]) (embL [.slice, (.int .i64)]) [(.slice y57.a y57.n y57.c), (.int .i64 0)] fun s15 ct15 => C.any fun _ =>
              cond (decide (s15.2 < (x2.n : Int))) (
                C.ix x2.a x2.n 33 s15.2 fun p66 =>
                C.ld (.int .i64) 1 (p66.add 32) fun v68 =>
                cond (decide (v68 ≥ x3)) (
                  C.ix x2.a x2.n 33 s15.2 fun p74 =>
                  C.ld .agg 32 (p74.add 0) fun v76 =>
                  C.sem (Instr.buildSlice ty_sl_impl_Key 1 #[(0, (.agg v76))]) .slice fun y77 =>
                  C.sem (Builtin.append_ #[ty_sl_impl_Key, ty_sl_impl_Key] ty_sl_impl_Key #[(.slice s15.1.a s15.1.n s15.1.c), (.slice y77.a y77.n y77.c)]) .slice fun y78 =>
                  ct15 [(.slice y78.a y78.n y78.c), (.int .i64 (IntKind.wrap .i64 (s15.2 + 1)))]
                ) (
                  ct15 [(.slice s15.1.a s15.1.n s15.1.c), (.int .i64 (IntKind.wrap .i64 (s15.2 + 1)))]
                )
              ) (
                C.call n_ptr_spec_l05Store_reach [(.pointer r20.1), (.slice s15.1.a s15.1.n s15.1.c)] [.slice, .slice] fun r82 =>
                C.ret (.tuple #[(.pointer r20.1), (.slice r82.1.a r82.1.n r82.1.c), (.int .i64 0)])
              )
            )
          ) fun jt =>
        cond (decide ((x1.n : Int) > 256)) (
          C.sem (Instr.buildSlice ty_sl_bool 0 #[]) .slice fun y49 =>
          C.ret (.tuple #[(.pointer r20.1), (.slice y49.a y49.n y49.c), (.int .i64 3)])
        ) (
          cond (decide ((x2.n : Int) > 32)) (
            C.sem (Instr.buildSlice ty_sl_bool 0 #[]) .slice fun y49 =>
            C.ret (.tuple #[(.pointer r20.1), (.slice y49.a y49.n y49.c), (.int .i64 3)])
          ) (
            jt []
          )
        )
      )
    ) fun jt =>
  C.loop (TL [.bool, (.int .i64)]) (embL [.bool, (.int .i64)]) [(.bool r20.2), (.int .i64 0)] fun s2 ct2 => C.any fun _ =>
  C.join (TL []) (embL []) (fun s3 => C.any fun _ =>
      C.ix x2.a x2.n 33 s2.2 fun p34 =>
      C.call n_spec_l05Lease [(.pointer (some p34))] [.bool] fun r35 =>
      ct2 [(.bool r35), (.int .i64 (IntKind.wrap .i64 (s2.2 + 1)))]
    ) fun jt1 =>
  cond (decide (s2.2 < (x2.n : Int))) (
    cond s2.1 (
      jt1 []
    ) (
      jt [(.bool s2.1)]
    )
  ) (
    jt [(.bool s2.1)]
  )
theorem spec_l05Needed_eq (C : Comb) (x0 : Addr) (x1 : Sl) (x2 : Sl) (x3 : Int) : fT C Tryz.prog { loop := [(3, [(12, .bool), (13, (.int .i64))]), (14, [(14, .slice), (15, (.int .i64))])], join := [(87, []), (11, [(12, .bool)]), (141, [])], anyOrder := [], pure := [] } n_spec_l05Needed [(.pointer (some x0)), (.slice x1.a x1.n x1.c), (.slice x2.a x2.n x2.c), (.int .i64 x3)] = spec_l05Needed C x0 x1 x2 x3 := by kernel_rfl
theorem spec_l05Needed_calls {R : Value → World → Prop} {w : World} (x0 : Addr) (x1 : Sl) (x2 : Sl) (x3 : Int) (h : (spec_l05Needed (real Tryz.prog R) x0 x1 x2 x3 : World → Prop) w) :
    Calls Tryz.prog n_spec_l05Needed [(.pointer (some x0)), (.slice x1.a x1.n x1.c), (.slice x2.a x2.n x2.c), (.int .i64 x3)].toArray w fun e w' => ∃ v, e = .returned v ∧ R v w' := fT_sound mixed { loop := [(3, [(12, .bool), (13, (.int .i64))]), (14, [(14, .slice), (15, (.int .i64))])], join := [(87, []), (11, [(12, .bool)]), (141, [])], anyOrder := [], pure := [] } (by rw [spec_l05Needed_eq]; exact h)

/-- laws.toLease (70) -/
def laws_toLease (C : Comb) (x0 : Array Value) : C.St :=
  C.new ty_laws_Lease (.agg x0) fun b1 =>
  C.new ty_impl_Lease (.agg (#[(.int .u8 0), (.int .u8 0), (.int .u8 0), (.int .u8 0), (.int .u8 0), (.int .u8 0), (.int .u8 0), (.int .u8 0), (.int .u8 0), (.int .u8 0), (.int .u8 0), (.int .u8 0), (.int .u8 0), (.int .u8 0), (.int .u8 0), (.int .u8 0), (.int .u8 0), (.int .u8 0), (.int .u8 0), (.int .u8 0), (.int .u8 0), (.int .u8 0), (.int .u8 0), (.int .u8 0), (.int .u8 0), (.int .u8 0), (.int .u8 0), (.int .u8 0), (.int .u8 0), (.int .u8 0), (.int .u8 0), (.int .u8 0), (.int .i64 0)])) fun b2 =>
  C.new ty_impl_Lease (.agg (#[(.int .u8 0), (.int .u8 0), (.int .u8 0), (.int .u8 0), (.int .u8 0), (.int .u8 0), (.int .u8 0), (.int .u8 0), (.int .u8 0), (.int .u8 0), (.int .u8 0), (.int .u8 0), (.int .u8 0), (.int .u8 0), (.int .u8 0), (.int .u8 0), (.int .u8 0), (.int .u8 0), (.int .u8 0), (.int .u8 0), (.int .u8 0), (.int .u8 0), (.int .u8 0), (.int .u8 0), (.int .u8 0), (.int .u8 0), (.int .u8 0), (.int .u8 0), (.int .u8 0), (.int .u8 0), (.int .u8 0), (.int .u8 0), (.int .i64 0)])) fun b3 =>
  C.ld .agg 32 ((Addr.mk b1 0 none).add 0) fun v5 =>
  C.call n_laws_toKey [(.agg v5)] [.agg] fun r6 =>
  C.st 32 ((Addr.mk b3 0 none).add 0) (.agg r6) <|
  C.ld (.int .i64) 1 ((Addr.mk b1 0 none).add 32) fun v9 =>
  C.st 1 ((Addr.mk b3 0 none).add 32) (.int .i64 v9) <|
  C.ld .agg 33 (Addr.mk b3 0 none) fun v11 =>
  C.st 33 (Addr.mk b2 0 none) (.agg v11) <|
  C.ld .agg 33 (Addr.mk b2 0 none) fun z8 =>
  C.ret (.agg z8)
theorem laws_toLease_eq (C : Comb) (x0 : Array Value) : fT C Tryz.prog { loop := [], join := [], anyOrder := [], pure := [] } n_laws_toLease [(.agg x0)] = laws_toLease C x0 := by kernel_rfl
theorem laws_toLease_calls {R : Value → World → Prop} {w : World} (x0 : Array Value) (h : (laws_toLease (real Tryz.prog R) x0 : World → Prop) w) :
    Calls Tryz.prog n_laws_toLease [(.agg x0)].toArray w fun e w' => ∃ v, e = .returned v ∧ R v w' := fT_sound mixed { loop := [], join := [], anyOrder := [], pure := [] } (by rw [laws_toLease_eq]; exact h)

/-- impl.alive (71) -/
def impl_alive (C : Comb) (x0 : Array Value) (x1 : Sl) (x2 : Sl) (x3 : Int) : C.St :=
  C.new ty_impl_Store (.agg x0) fun b4 =>
  C.new ty_func_int64_bool .nilFunc fun b11 =>
  C.st 1 (Addr.mk b11 0 none) (.func (.func n_impl_alive_1) #[] #[]) <|
  C.ld .agg 1 (Addr.mk b4 0 none) fun v21 =>
  C.call n_impl_newShop [(.agg v21)] [.optr, .bool] fun r22 =>
  C.join (TL [.bool]) (embL [.bool]) (fun s6 => C.any fun _ =>
      cond s6 (
        C.ret (.tuple #[(.pointer none), (.map none), (.int .i64 1)])
      ) (
        C.join (TL [.bool]) (embL [.bool]) (fun s7 => C.any fun _ =>
            cond s7 (
              C.ret (.tuple #[(.pointer none), (.map none), (.int .i64 3)])
            ) (
              C.ld .val 1 (Addr.mk b11 0 none) fun v43 =>
              C.callV v43 [(.int .i64 x3)] [.bool] fun r45 =>
              cond (!r45) (
                C.ret (.tuple #[(.pointer none), (.map none), (.int .i64 2)])
              ) (
                C.call n_slices_Clone_sl_impl_Key_impl_Key [(.slice x1.a x1.n x1.c)] [.slice] fun r48 =>
                C.loop (TL [.slice, (.int .i64)]) (embL [.slice, (.int .i64)]) [(.slice r48.a r48.n r48.c), (.int .i64 0)] fun s11 ct11 => C.any fun _ =>
                cond (decide (s11.2 < (x2.n : Int))) (
                  C.ix x2.a x2.n 33 s11.2 fun p53 =>
                  C.ld .agg 33 p53 fun v54 =>
                  C.new ty_impl_Lease (.agg (#[(.int .u8 0), (.int .u8 0), (.int .u8 0), (.int .u8 0), (.int .u8 0), (.int .u8 0), (.int .u8 0), (.int .u8 0), (.int .u8 0), (.int .u8 0), (.int .u8 0), (.int .u8 0), (.int .u8 0), (.int .u8 0), (.int .u8 0), (.int .u8 0), (.int .u8 0), (.int .u8 0), (.int .u8 0), (.int .u8 0), (.int .u8 0), (.int .u8 0), (.int .u8 0), (.int .u8 0), (.int .u8 0), (.int .u8 0), (.int .u8 0), (.int .u8 0), (.int .u8 0), (.int .u8 0), (.int .u8 0), (.int .u8 0), (.int .i64 0)])) fun b16 =>
                  C.st 33 (Addr.mk b16 0 none) (.agg v54) <|
                  C.ld (.int .i64) 1 ((Addr.mk b16 0 none).add 32) fun v56 =>
                  cond (decide (v56 ≥ x3)) (
                    C.ld .agg 32 ((Addr.mk b16 0 none).add 0) fun v61 =>
                    C.sem (Instr.buildSlice ty_sl_impl_Key 1 #[(0, (.agg v61))]) .slice fun y62 =>
                    C.sem (Builtin.append_ #[ty_sl_impl_Key, ty_sl_impl_Key] ty_sl_impl_Key #[(.slice s11.1.a s11.1.n s11.1.c), (.slice y62.a y62.n y62.c)]) .slice fun y63 =>
                    ct11 [(.slice y63.a y63.n y63.c), (.int .i64 (IntKind.wrap .i64 (s11.2 + 1)))]
                  ) (
                    ct11 [(.slice s11.1.a s11.1.n s11.1.c), (.int .i64 (IntKind.wrap .i64 (s11.2 + 1)))]
                  )
                ) (
                  C.sem (Instr.makeMap ty_map_impl_Key_bool none) .val fun y65 =>
                  C.call n_ptr_impl_shop_reach [(.pointer r22.1), (.slice s11.1.a s11.1.n s11.1.c)] [.slice] fun r68 =>
                  C.loop (TL [(.int .i64)]) (embL [(.int .i64)]) [(.int .i64 0)] fun s21 ct21 => C.any fun _ =>
                  cond (decide (s21 < (r68.n : Int))) (
                    C.ix r68.a r68.n 32 s21 fun p72 =>
                    C.ld .agg 32 p72 fun v73 =>
                    C.new ty_impl_Key (.agg (Array.replicate 32 (.int .u8 0))) fun b19 =>
                    C.st 32 (Addr.mk b19 0 none) (.agg v73) <|
                    C.ld .agg 32 (Addr.mk b19 0 none) fun v75 =>
                    C.eff (Instr.mapUpdate ty_map_impl_Key_bool y65 (.agg v75) (.bool true)) <|
                    ct21 [(.int .i64 (IntKind.wrap .i64 (s21 + 1)))]
                  ) (
                    C.ret (.tuple #[(.pointer r22.1), y65, (.int .i64 0)])
                  )
                )
              )
            )
          ) fun jt =>
        cond (decide ((x1.n : Int) > 256)) (
          jt [(.bool true)]
        ) (
          jt [(.bool (decide ((x2.n : Int) > 32)))]
        )
      )
    ) fun jt =>
  cond (!r22.2) (
    jt [(.bool true)]
  ) (
    C.call n_slices_ContainsFunc_sl_impl_Lease_impl_Lease [(.slice x2.a x2.n x2.c), (.func (.func n_impl_alive_2) #[] #[(.pointer (some (Addr.mk b11 0 none)))])] [.bool] fun r31 =>
    jt [(.bool r31)]
  )
theorem impl_alive_eq (C : Comb) (x0 : Array Value) (x1 : Sl) (x2 : Sl) (x3 : Int) : fT C Tryz.prog { loop := [(11, [(14, .slice), (51, (.int .i64))]), (18, [(70, (.int .i64))])], join := [(10, [(25, .bool)]), (16, [(33, .bool)])], anyOrder := [], pure := [] } n_impl_alive [(.agg x0), (.slice x1.a x1.n x1.c), (.slice x2.a x2.n x2.c), (.int .i64 x3)] = impl_alive C x0 x1 x2 x3 := by kernel_rfl
theorem impl_alive_calls {R : Value → World → Prop} {w : World} (x0 : Array Value) (x1 : Sl) (x2 : Sl) (x3 : Int) (h : (impl_alive (real Tryz.prog R) x0 x1 x2 x3 : World → Prop) w) :
    Calls Tryz.prog n_impl_alive [(.agg x0), (.slice x1.a x1.n x1.c), (.slice x2.a x2.n x2.c), (.int .i64 x3)].toArray w fun e w' => ∃ v, e = .returned v ∧ R v w' := fT_sound mixed { loop := [(11, [(14, .slice), (51, (.int .i64))]), (18, [(70, (.int .i64))])], join := [(10, [(25, .bool)]), (16, [(33, .bool)])], anyOrder := [], pure := [] } (by rw [impl_alive_eq]; exact h)

/-- slices.DeleteFunc[[]impl.Key,impl.Key] (72) -/
def slices_DeleteFunc_sl_impl_Key_impl_Key (C : Comb) (x0 : Sl) (x1 : Value) : C.St :=
  C.call n_slices_IndexFunc_sl_impl_Key_impl_Key [(.slice x0.a x0.n x0.c), x1] [(.int .i64)] fun r10 =>
  cond (r10 == (-1)) (
    C.ret (.slice x0.a x0.n x0.c)
  ) (
    C.loop (TL [(.int .i64), (.int .i64)]) (embL [(.int .i64), (.int .i64)]) [(.int .i64 r10), (.int .i64 (IntKind.wrap .i64 (r10 + 1)))] fun s2 ct2 => C.any fun _ =>
    cond (decide (s2.2 < (x0.n : Int))) (
      C.ix x0.a x0.n 32 s2.2 fun p24 =>
      C.ld .agg 32 p24 fun v25 =>
      C.new ty_impl_Key (.agg (Array.replicate 32 (.int .u8 0))) fun b7 =>
      C.st 32 (Addr.mk b7 0 none) (.agg v25) <|
      C.ld .agg 32 (Addr.mk b7 0 none) fun v27 =>
      C.callV x1 [(.agg v27)] [.bool] fun r28 =>
      cond (!r28) (
        C.ld .agg 32 (Addr.mk b7 0 none) fun v32 =>
        C.ix x0.a x0.n 32 s2.1 fun p33 =>
        C.st 32 p33 (.agg v32) <|
        ct2 [(.int .i64 (IntKind.wrap .i64 (s2.1 + 1))), (.int .i64 (IntKind.wrap .i64 (s2.2 + 1)))]
      ) (
        ct2 [(.int .i64 s2.1), (.int .i64 (IntKind.wrap .i64 (s2.2 + 1)))]
      )
    ) (
      C.sl x0.a x0.n x0.c 32 (some s2.1) none none fun y38 =>
      C.sem (Builtin.clear_ #[ty_sl_impl_Key] ty_x #[(.slice y38.a y38.n y38.c)]) .val fun yq11 =>
      C.sl x0.a x0.n x0.c 32 none (some s2.1) none fun y41 =>
      C.ret (.slice y41.a y41.n y41.c)
    )
  )
theorem slices_DeleteFunc_sl_impl_Key_impl_Key_eq (C : Comb) (x0 : Sl) (x1 : Value) : fT C Tryz.prog { loop := [(5, [(5, (.int .i64)), (6, (.int .i64))])], join := [], anyOrder := [], pure := [] } n_slices_DeleteFunc_sl_impl_Key_impl_Key [(.slice x0.a x0.n x0.c), x1] = slices_DeleteFunc_sl_impl_Key_impl_Key C x0 x1 := by kernel_rfl
theorem slices_DeleteFunc_sl_impl_Key_impl_Key_calls {R : Value → World → Prop} {w : World} (x0 : Sl) (x1 : Value) (h : (slices_DeleteFunc_sl_impl_Key_impl_Key (real Tryz.prog R) x0 x1 : World → Prop) w) :
    Calls Tryz.prog n_slices_DeleteFunc_sl_impl_Key_impl_Key [(.slice x0.a x0.n x0.c), x1].toArray w fun e w' => ∃ v, e = .returned v ∧ R v w' := fT_sound mixed { loop := [(5, [(5, (.int .i64)), (6, (.int .i64))])], join := [], anyOrder := [], pure := [] } (by rw [slices_DeleteFunc_sl_impl_Key_impl_Key_eq]; exact h)

/-- impl.DeadIn$1 (73) -/
def impl_DeadIn_1 (C : Comb) (x0 : Array Value) (x1 : Addr) : C.St :=
  C.new ty_impl_Key (.agg x0) fun b2 =>
  C.ld .val 1 x1 fun v4 =>
  C.ld .agg 32 (Addr.mk b2 0 none) fun v5 =>
  C.semL (Instr.lookup ty_map_impl_Key_bool v4 (.agg v5) false) [.bool] fun y6 =>
  C.ret (.bool y6)
theorem impl_DeadIn_1_eq (C : Comb) (x0 : Array Value) (x1 : Addr) : fT C Tryz.prog { loop := [], join := [], anyOrder := [], pure := [] } n_impl_DeadIn_1 [(.agg x0), (.pointer (some x1))] = impl_DeadIn_1 C x0 x1 := by kernel_rfl
theorem impl_DeadIn_1_calls {R : Value → World → Prop} {w : World} (x0 : Array Value) (x1 : Addr) (h : (impl_DeadIn_1 (real Tryz.prog R) x0 x1 : World → Prop) w) :
    Calls Tryz.prog n_impl_DeadIn_1 [(.agg x0), (.pointer (some x1))].toArray w fun e w' => ∃ v, e = .returned v ∧ R v w' := fT_sound mixed { loop := [], join := [], anyOrder := [], pure := [] } (by rw [impl_DeadIn_1_eq]; exact h)

/-- laws.eqLease (74) -/
def laws_eqLease (C : Comb) (x0 : Array Value) (x1 : Array Value) : C.St :=
  C.new ty_impl_Lease (.agg x0) fun b2 =>
  C.new ty_impl_Lease (.agg x1) fun b3 =>
  C.ld .agg 32 ((Addr.mk b2 0 none).add 0) fun v6 =>
  C.ld .agg 32 ((Addr.mk b3 0 none).add 0) fun v8 =>
  C.call n_laws_eqKey [(.agg v6), (.agg v8)] [.bool] fun r9 =>
  cond (!r9) (
    C.ret (.bool false)
  ) (
    C.ld (.int .i64) 1 ((Addr.mk b2 0 none).add 32) fun v12 =>
    C.ld (.int .i64) 1 ((Addr.mk b3 0 none).add 32) fun v14 =>
    cond (v12 != v14) (
      C.ret (.bool false)
    ) (
      C.ret (.bool true)
    )
  )
theorem laws_eqLease_eq (C : Comb) (x0 : Array Value) (x1 : Array Value) : fT C Tryz.prog { loop := [], join := [], anyOrder := [], pure := [] } n_laws_eqLease [(.agg x0), (.agg x1)] = laws_eqLease C x0 x1 := by kernel_rfl
theorem laws_eqLease_calls {R : Value → World → Prop} {w : World} (x0 : Array Value) (x1 : Array Value) (h : (laws_eqLease (real Tryz.prog R) x0 x1 : World → Prop) w) :
    Calls Tryz.prog n_laws_eqLease [(.agg x0), (.agg x1)].toArray w fun e w' => ∃ v, e = .returned v ∧ R v w' := fT_sound mixed { loop := [], join := [], anyOrder := [], pure := [] } (by rw [laws_eqLease_eq]; exact h)

/-- spec.l00From (75) -/
def spec_l00From (C : Comb) (x0 : Sl) : C.St :=
  C.pur (Instr.build ty_spec_l00Src #[(0, (.slice x0.a x0.n x0.c))]) .agg fun y4 =>
  C.new ty_spec_l00Src (.agg y4) fun b5 =>
  C.ret (.pointer (some (Addr.mk b5 0 none)))
theorem spec_l00From_eq (C : Comb) (x0 : Sl) : fT C Tryz.prog { loop := [], join := [], anyOrder := [], pure := [] } n_spec_l00From [(.slice x0.a x0.n x0.c)] = spec_l00From C x0 := by kernel_rfl
theorem spec_l00From_calls {R : Value → World → Prop} {w : World} (x0 : Sl) (h : (spec_l00From (real Tryz.prog R) x0 : World → Prop) w) :
    Calls Tryz.prog n_spec_l00From [(.slice x0.a x0.n x0.c)].toArray w fun e w' => ∃ v, e = .returned v ∧ R v w' := fT_sound mixed { loop := [], join := [], anyOrder := [], pure := [] } (by rw [spec_l00From_eq]; exact h)

/-- spec.l05Drawn (76) -/
def spec_l05Drawn (C : Comb) (x0 : Addr) : C.St :=
  C.new ty_impl_Store (.agg (#[(.slice none 0 0)])) fun b2 =>
  C.pur (Instr.build ty_impl_Store #[]) .agg fun y12 =>
  C.new ty_impl_Store (.agg (#[(.slice none 0 0)])) fun b4 =>
  C.st 1 (Addr.mk b4 0 none) (.agg y12) <|
  C.sem (Instr.buildSlice ty_sl_impl_Key 0 #[]) .slice fun y13 =>
  C.call n_ptr_spec_l00Src_pick [(.pointer (some x0)), (.int .i64 4)] [(.int .i64)] fun r15 =>
  C.loop (TL [.slice, (.int .i64)]) (embL [.slice, (.int .i64)]) [(.slice y13.a y13.n y13.c), (.int .i64 r15)] fun s6 ct6 => C.any fun _ =>
  cond (decide (s6.2 > 0)) (
    C.new ty_impl_Key (.agg (Array.replicate 32 (.int .u8 0))) fun b7 =>
    C.st 32 (Addr.mk b7 0 none) (.agg (Array.replicate 32 (.int .u8 0))) <|
    C.ld .agg 1 (Addr.mk b4 0 none) fun v21 =>
    C.new ty_impl_Store (.agg (#[(.slice none 0 0)])) fun b8 =>
    C.st 1 (Addr.mk b8 0 none) (.agg v21) <|
    C.join (TL [(.int .i64)]) (embL [(.int .i64)]) (fun s32 => C.any fun _ =>
        cond (s32 == 0) (
          C.ld .agg 1 (Addr.mk b8 0 none) fun v71 =>
          C.st 1 (Addr.mk b4 0 none) (.agg v71) <|
          C.ld .agg 32 (Addr.mk b7 0 none) fun v73 =>
          C.sem (Instr.buildSlice ty_sl_impl_Key 1 #[(0, (.agg v73))]) .slice fun y74 =>
          C.sem (Builtin.append_ #[ty_sl_impl_Key, ty_sl_impl_Key] ty_sl_impl_Key #[(.slice s6.1.a s6.1.n s6.1.c), (.slice y74.a y74.n y74.c)]) .slice fun y75 =>
          ct6 [(.slice y75.a y75.n y75.c), (.int .i64 (IntKind.wrap .i64 (s6.2 - 1)))]
        ) (
          ct6 [(.slice s6.1.a s6.1.n s6.1.c), (.int .i64 (IntKind.wrap .i64 (s6.2 - 1)))]
        )
      ) fun jt =>
    C.call n_ptr_spec_l00Src_pick [(.pointer (some x0)), (.int .i64 4)] [(.int .i64)] fun r23 =>
    cond (r23 == 0) (
      C.draw <|
      C.ld .agg 1 (Addr.mk b4 0 none) fun v27 =>
      C.call n_spec_l04Drawn [(.pointer (some x0)), (.int .i64 5)] [.slice] fun r29 =>
      C.chk [⟨0, 1, (Addr.mk b4 0 none), .agg, v27⟩] <|
      C.call n_spec_StoreMap [(.agg v27), (.slice r29.a r29.n r29.c)] [.agg, .agg, (.int .i64)] fun r30 =>
      C.st 1 (Addr.mk b8 0 none) (.agg r30.1) <|
      C.st 32 (Addr.mk b7 0 none) (.agg r30.2.1) <|
      jt [(.int .i64 r30.2.2)]
    ) (
      cond (r23 == 1) (
        C.draw <|
        C.ld .agg 1 (Addr.mk b4 0 none) fun v37 =>
        C.call n_spec_l05DrawChunks [(.pointer (some x0)), (.int .i64 5)] [.slice] fun r39 =>
        C.chk [⟨0, 1, (Addr.mk b4 0 none), .agg, v37⟩] <|
        C.call n_spec_StoreList [(.agg v37), (.slice r39.a r39.n r39.c)] [.agg, .agg, (.int .i64)] fun r40 =>
        C.st 1 (Addr.mk b8 0 none) (.agg r40.1) <|
        C.st 32 (Addr.mk b7 0 none) (.agg r40.2.1) <|
        jt [(.int .i64 r40.2.2)]
      ) (
        cond (r23 == 2) (
          C.ld .agg 1 (Addr.mk b4 0 none) fun v47 =>
          C.call n_spec_PutFolder [(.agg v47), (.slice s6.1.a s6.1.n s6.1.c)] [.agg, .agg, (.int .i64)] fun r49 =>
          C.st 1 (Addr.mk b8 0 none) (.agg r49.1) <|
          C.st 32 (Addr.mk b7 0 none) (.agg r49.2.1) <|
          jt [(.int .i64 r49.2.2)]
        ) (
          cond (r23 == 3) (
            C.draw <|
            C.ld .agg 1 (Addr.mk b4 0 none) fun v56 =>
            C.all [
              (C.call n_ptr_spec_l00Src_pick [(.pointer (some x0)), (.int .i64 9)] [(.int .i64)] fun r58 =>
               C.chk [⟨0, 1, (Addr.mk b4 0 none), .agg, v56⟩] <|
               C.sem (Instr.buildSlice ty_sl_string 3 #[(0, (.string (⟨#[]⟩ : ByteArray))), (1, (.string (⟨#[120]⟩ : ByteArray))), (2, (.string (⟨#[98, 108, 111, 98]⟩ : ByteArray)))]) .slice fun y61 =>
               C.chk [⟨0, 1, (Addr.mk b4 0 none), .agg, v56⟩] <|
               C.call n_ptr_spec_l00Src_text [(.pointer (some x0)), (.slice y61.a y61.n y61.c)] [.str] fun r62 =>
               C.chk [⟨0, 1, (Addr.mk b4 0 none), .agg, v56⟩] <|
               C.sem (convert ty_string ty_sl_uint8 (.string r62)) .slice fun y63 =>
               C.chk [⟨0, 1, (Addr.mk b4 0 none), .agg, v56⟩] <|
               C.pur (Instr.build ty_impl_Blob #[(0, (.int .u8 (IntKind.wrap .u8 (r58)))), (1, (.slice y63.a y63.n y63.c))]) .agg fun y64 =>
               C.call n_spec_PutBlob [(.agg v56), (.agg y64)] [.agg, .agg, (.int .i64)] fun r65 =>
               C.st 1 (Addr.mk b8 0 none) (.agg r65.1) <|
               C.st 32 (Addr.mk b7 0 none) (.agg r65.2.1) <|
               jt [(.int .i64 r65.2.2)]),
              (C.sem (Instr.buildSlice ty_sl_string 3 #[(0, (.string (⟨#[]⟩ : ByteArray))), (1, (.string (⟨#[120]⟩ : ByteArray))), (2, (.string (⟨#[98, 108, 111, 98]⟩ : ByteArray)))]) .slice fun y61 =>
               C.chk [⟨0, 1, (Addr.mk b4 0 none), .agg, v56⟩] <|
               C.call n_ptr_spec_l00Src_pick [(.pointer (some x0)), (.int .i64 9)] [(.int .i64)] fun r58 =>
               C.chk [⟨0, 1, (Addr.mk b4 0 none), .agg, v56⟩] <|
               C.call n_ptr_spec_l00Src_text [(.pointer (some x0)), (.slice y61.a y61.n y61.c)] [.str] fun r62 =>
               C.chk [⟨0, 1, (Addr.mk b4 0 none), .agg, v56⟩] <|
               C.sem (convert ty_string ty_sl_uint8 (.string r62)) .slice fun y63 =>
               C.chk [⟨0, 1, (Addr.mk b4 0 none), .agg, v56⟩] <|
               C.pur (Instr.build ty_impl_Blob #[(0, (.int .u8 (IntKind.wrap .u8 (r58)))), (1, (.slice y63.a y63.n y63.c))]) .agg fun y64 =>
               C.call n_spec_PutBlob [(.agg v56), (.agg y64)] [.agg, .agg, (.int .i64)] fun r65 =>
               C.st 1 (Addr.mk b8 0 none) (.agg r65.1) <|
               C.st 32 (Addr.mk b7 0 none) (.agg r65.2.1) <|
               jt [(.int .i64 r65.2.2)])]
          ) (
            jt [(.int .i64 0)]
          )
        )
      )
    )
  ) (
    C.join (TL [.bool]) (embL [.bool]) (fun s39 => C.any fun _ =>
        cond s39 (
          C.call n_spec_l05Open [(.pointer (some (Addr.mk b4 0 none)))] [.optr, .bool] fun r85 =>
          C.draw <|
          C.ld .agg 1 (Addr.mk b4 0 none) fun v89 =>
          dpT C r85.1 fun a42 =>
          C.ld .slice 1 (a42.add 1) fun v93 =>
          dpT C r85.1 fun a44 =>
          C.ld .slice 1 (a44.add 1) fun v98 =>
          C.call n_ptr_spec_l00Src_pick [(.pointer (some x0)), (.int .i64 (v98.n : Int))] [(.int .i64)] fun r100 =>
          C.chk [⟨9, 1, (a44.add 1), .slice, v98⟩, ⟨4, 1, (a42.add 1), .slice, v93⟩, ⟨0, 1, (Addr.mk b4 0 none), .agg, v89⟩] <|
          C.ix v93.a v93.n 32 r100 fun p101 =>
          C.ld .agg 32 p101 fun v102 =>
          C.call n_spec_DropBlob [(.agg v89), (.agg v102)] [.agg, (.int .i64)] fun r103 =>
          C.chk [⟨9, 1, (a44.add 1), .slice, v98⟩, ⟨4, 1, (a42.add 1), .slice, v93⟩] <|
          C.st 1 (Addr.mk b4 0 none) (.agg r103.1) <|
          C.ld .agg 1 (Addr.mk b4 0 none) fun v106 =>
          C.st 1 (Addr.mk b2 0 none) (.agg v106) <|
          C.ld .agg 1 (Addr.mk b2 0 none) fun z51 =>
          C.ret (.tuple #[(.agg z51), (.slice s6.1.a s6.1.n s6.1.c)])
        ) (
          C.ld .agg 1 (Addr.mk b4 0 none) fun v106 =>
          C.st 1 (Addr.mk b2 0 none) (.agg v106) <|
          C.ld .agg 1 (Addr.mk b2 0 none) fun z53 =>
          C.ret (.tuple #[(.agg z53), (.slice s6.1.a s6.1.n s6.1.c)])
        )
      ) fun jt =>
    C.call n_ptr_spec_l00Src_one [(.pointer (some x0)), (.int .i64 5)] [.bool] fun r77 =>
    cond r77 (
      C.ld .slice 1 ((Addr.mk b4 0 none).add 0) fun v80 =>
      jt [(.bool (decide ((v80.n : Int) > 0)))]
    ) (
      jt [(.bool false)]
    )
  )
theorem spec_l05Drawn_eq (C : Comb) (x0 : Addr) : fT C Tryz.prog { loop := [(4, [(5, .slice), (6, (.int .i64))])], join := [(32, [(9, (.int .i64))]), (64, [(83, .bool)])], anyOrder := [11, 13, 17, 23], pure := [] } n_spec_l05Drawn [(.pointer (some x0))] = spec_l05Drawn C x0 := by kernel_rfl
theorem spec_l05Drawn_calls {R : Value → World → Prop} {w : World} (x0 : Addr) (h : (spec_l05Drawn (real Tryz.prog R) x0 : World → Prop) w) :
    Calls Tryz.prog n_spec_l05Drawn [(.pointer (some x0))].toArray w fun e w' => ∃ v, e = .returned v ∧ R v w' := fT_sound mixed { loop := [(4, [(5, .slice), (6, (.int .i64))])], join := [(32, [(9, (.int .i64))]), (64, [(83, .bool)])], anyOrder := [11, 13, 17, 23], pure := [] } (by rw [spec_l05Drawn_eq]; exact h)

/-- (*spec.l00Src).one (77) -/
def ptr_spec_l00Src_one (C : Comb) (x0 : Addr) (x1 : Int) : C.St :=
  C.call n_ptr_spec_l00Src_pick [(.pointer (some x0)), (.int .i64 x1)] [(.int .i64)] fun r7 =>
  C.ret (.bool (r7 == 0))
theorem ptr_spec_l00Src_one_eq (C : Comb) (x0 : Addr) (x1 : Int) : fT C Tryz.prog { loop := [], join := [], anyOrder := [], pure := [] } n_ptr_spec_l00Src_one [(.pointer (some x0)), (.int .i64 x1)] = ptr_spec_l00Src_one C x0 x1 := by kernel_rfl
theorem ptr_spec_l00Src_one_calls {R : Value → World → Prop} {w : World} (x0 : Addr) (x1 : Int) (h : (ptr_spec_l00Src_one (real Tryz.prog R) x0 x1 : World → Prop) w) :
    Calls Tryz.prog n_ptr_spec_l00Src_one [(.pointer (some x0)), (.int .i64 x1)].toArray w fun e w' => ∃ v, e = .returned v ∧ R v w' := fT_sound mixed { loop := [], join := [], anyOrder := [], pure := [] } (by rw [ptr_spec_l00Src_one_eq]; exact h)

/-- spec.l01Any (78) -/
def spec_l01Any (C : Comb) (x0 : Addr) : C.St :=
  C.new ty_impl_Key (.agg (Array.replicate 32 (.int .u8 0))) fun b2 =>
  C.new ty_impl_Key (.agg (Array.replicate 32 (.int .u8 0))) fun b3 =>
  C.st 32 (Addr.mk b3 0 none) (.agg (Array.replicate 32 (.int .u8 0))) <|
  C.call n_ptr_spec_l00Src_pick [(.pointer (some x0)), (.int .i64 3)] [(.int .i64)] fun r7 =>
  cond (r7 == 0) (
    C.call n_ptr_spec_l00Src_pick [(.pointer (some x0)), (.int .i64 3)] [(.int .i64)] fun r11 =>
    C.call n_spec_l01Data [(.pointer (some x0)), (.int .i64 4)] [.slice] fun r14 =>
    C.call n_spec_l01Hash [(.int .u8 (IntKind.wrap .u8 (r11))), (.slice r14.a r14.n r14.c)] [.agg] fun r15 =>
    C.st 32 (Addr.mk b2 0 none) (.agg r15) <|
    C.ld .agg 32 (Addr.mk b2 0 none) fun z7 =>
    C.ret (.agg z7)
  ) (
    cond (r7 == 1) (
      C.call n_ptr_spec_l00Src_pick [(.pointer (some x0)), (.int .i64 32)] [(.int .i64)] fun r19 =>
      C.call n_ptr_spec_l00Src_pick [(.pointer (some x0)), (.int .i64 256)] [(.int .i64)] fun r21 =>
      C.ix (some (Addr.mk b3 0 none)) 32 1 r19 fun p23 =>
      C.st 1 p23 (.int .u8 (IntKind.wrap .u8 (r21))) <|
      C.ld .agg 32 (Addr.mk b3 0 none) fun v35 =>
      C.st 32 (Addr.mk b2 0 none) (.agg v35) <|
      C.ld .agg 32 (Addr.mk b2 0 none) fun z12 =>
      C.ret (.agg z12)
    ) (
      cond (r7 == 2) (
        C.loop (TL [(.int .i64)]) (embL [(.int .i64)]) [(.int .i64 0)] fun s13 ct13 => C.any fun _ =>
        cond (decide (s13 < 32)) (
          C.call n_ptr_spec_l00Src_pick [(.pointer (some x0)), (.int .i64 256)] [(.int .i64)] fun r32 =>
          C.ix (some (Addr.mk b3 0 none)) 32 1 s13 fun p34 =>
          C.st 1 p34 (.int .u8 (IntKind.wrap .u8 (r32))) <|
          ct13 [(.int .i64 (IntKind.wrap .i64 (s13 + 1)))]
        ) (
          C.ld .agg 32 (Addr.mk b3 0 none) fun v35 =>
          C.st 32 (Addr.mk b2 0 none) (.agg v35) <|
          C.ld .agg 32 (Addr.mk b2 0 none) fun z17 =>
          C.ret (.agg z17)
        )
      ) (
        C.ld .agg 32 (Addr.mk b3 0 none) fun v35 =>
        C.st 32 (Addr.mk b2 0 none) (.agg v35) <|
        C.ld .agg 32 (Addr.mk b2 0 none) fun z19 =>
        C.ret (.agg z19)
      )
    )
  )
theorem spec_l01Any_eq (C : Comb) (x0 : Addr) : fT C Tryz.prog { loop := [(9, [(4, (.int .i64))])], join := [], anyOrder := [], pure := [] } n_spec_l01Any [(.pointer (some x0))] = spec_l01Any C x0 := by kernel_rfl
theorem spec_l01Any_calls {R : Value → World → Prop} {w : World} (x0 : Addr) (h : (spec_l01Any (real Tryz.prog R) x0 : World → Prop) w) :
    Calls Tryz.prog n_spec_l01Any [(.pointer (some x0))].toArray w fun e w' => ∃ v, e = .returned v ∧ R v w' := fT_sound mixed { loop := [(9, [(4, (.int .i64))])], join := [], anyOrder := [], pure := [] } (by rw [spec_l01Any_eq]; exact h)

/-- (*spec.l00Src).pick (79) -/
def ptr_spec_l00Src_pick (C : Comb) (x0 : Addr) (x1 : Int) : C.St :=
  cond (decide (x1 ≤ 1)) (
    C.ret (.int .i64 0)
  ) (
    C.call n_ptr_spec_l00Src_next [(.pointer (some x0))] [(.int .i64)] fun r9 =>
    cond (decide (x1 > 200)) (
      C.call n_ptr_spec_l00Src_next [(.pointer (some x0))] [(.int .i64)] fun r15 =>
      C.pur (eqB .rem ty_int64 (.tmp 17) (.tmp 18) (.int .i64 (IntKind.wrap .i64 ((IntKind.wrap .i64 (r9 * 256)) + r15))) (.int .i64 x1)) (.int .i64) fun y19 =>
      C.ret (.int .i64 y19)
    ) (
      C.pur (eqB .rem ty_int64 (.tmp 17) (.tmp 18) (.int .i64 r9) (.int .i64 x1)) (.int .i64) fun y19 =>
      C.ret (.int .i64 y19)
    )
  )
theorem ptr_spec_l00Src_pick_eq (C : Comb) (x0 : Addr) (x1 : Int) : fT C Tryz.prog { loop := [], join := [], anyOrder := [], pure := [] } n_ptr_spec_l00Src_pick [(.pointer (some x0)), (.int .i64 x1)] = ptr_spec_l00Src_pick C x0 x1 := by kernel_rfl
theorem ptr_spec_l00Src_pick_calls {R : Value → World → Prop} {w : World} (x0 : Addr) (x1 : Int) (h : (ptr_spec_l00Src_pick (real Tryz.prog R) x0 x1 : World → Prop) w) :
    Calls Tryz.prog n_ptr_spec_l00Src_pick [(.pointer (some x0)), (.int .i64 x1)].toArray w fun e w' => ∃ v, e = .returned v ∧ R v w' := fT_sound mixed { loop := [], join := [], anyOrder := [], pure := [] } (by rw [ptr_spec_l00Src_pick_eq]; exact h)

/-- (*impl.shop).kept (80) -/
def ptr_impl_shop_kept (C : Comb) (x0 : Addr) (x1 : Value) : C.St :=
  C.new ty_impl_Store (.agg (#[(.slice none 0 0)])) fun b4 =>
  C.pur (Instr.build ty_impl_shop #[]) .agg fun y8 =>
  C.new ty_impl_shop (.agg y8) fun b9 =>
  C.ld .slice 1 (x0.add 0) fun v13 =>
  C.loop (TL [(.int .i64)]) (embL [(.int .i64)]) [(.int .i64 0)] fun s5 ct5 => C.any fun _ =>
  cond (decide (s5 < (v13.n : Int))) (
    C.ix v13.a v13.n 32 s5 fun p18 =>
    C.ld .agg 32 p18 fun v19 =>
    C.new ty_impl_Key (.agg (Array.replicate 32 (.int .u8 0))) fun b7 =>
    C.st 32 (Addr.mk b7 0 none) (.agg v19) <|
    C.ld .agg 32 (Addr.mk b7 0 none) fun v21 =>
    C.callV x1 [(.agg v21)] [.bool] fun r22 =>
    cond r22 (
      C.draw <|
      C.ld .slice 1 ((Addr.mk b9 0 none).add 1) fun v27 =>
      C.ld .slice 1 (x0.add 1) fun v31 =>
      C.ix v31.a v31.n 2 s5 fun p33 =>
      C.ld .agg 2 p33 fun v34 =>
      C.sem (Instr.buildSlice ty_sl_impl_Blob 1 #[(0, (.agg v34))]) .slice fun y35 =>
      C.chk [⟨8, 1, (x0.add 1), .slice, v31⟩, ⟨4, 1, ((Addr.mk b9 0 none).add 1), .slice, v27⟩] <|
      C.sem (Builtin.append_ #[ty_sl_impl_Blob, ty_sl_impl_Blob] ty_sl_impl_Blob #[(.slice v27.a v27.n v27.c), (.slice y35.a y35.n y35.c)]) .slice fun y36 =>
      C.chk [⟨8, 1, (x0.add 1), .slice, v31⟩] <|
      C.st 1 ((Addr.mk b9 0 none).add 1) (.slice y36.a y36.n y36.c) <|
      ct5 [(.int .i64 (IntKind.wrap .i64 (s5 + 1)))]
    ) (
      ct5 [(.int .i64 (IntKind.wrap .i64 (s5 + 1)))]
    )
  ) (
    C.call n_ptr_impl_shop_store [(.pointer (some (Addr.mk b9 0 none)))] [.agg] fun r41 =>
    C.st 1 (Addr.mk b4 0 none) (.agg r41) <|
    C.ld .agg 1 (Addr.mk b4 0 none) fun z18 =>
    C.ret (.agg z18)
  )
theorem ptr_impl_shop_kept_eq (C : Comb) (x0 : Addr) (x1 : Value) : fT C Tryz.prog { loop := [(3, [(15, (.int .i64))])], join := [], anyOrder := [6], pure := [] } n_ptr_impl_shop_kept [(.pointer (some x0)), x1] = ptr_impl_shop_kept C x0 x1 := by kernel_rfl
theorem ptr_impl_shop_kept_calls {R : Value → World → Prop} {w : World} (x0 : Addr) (x1 : Value) (h : (ptr_impl_shop_kept (real Tryz.prog R) x0 x1 : World → Prop) w) :
    Calls Tryz.prog n_ptr_impl_shop_kept [(.pointer (some x0)), x1].toArray w fun e w' => ∃ v, e = .returned v ∧ R v w' := fT_sound mixed { loop := [(3, [(15, (.int .i64))])], join := [], anyOrder := [6], pure := [] } (by rw [ptr_impl_shop_kept_eq]; exact h)

/-- impl.Collect$1 (81) -/
def impl_Collect_1 (C : Comb) (x0 : Array Value) (x1 : Addr) : C.St :=
  C.new ty_impl_Key (.agg x0) fun b2 =>
  C.ld .val 1 x1 fun v4 =>
  C.ld .agg 32 (Addr.mk b2 0 none) fun v5 =>
  C.semL (Instr.lookup ty_map_impl_Key_bool v4 (.agg v5) false) [.bool] fun y6 =>
  C.ret (.bool y6)
theorem impl_Collect_1_eq (C : Comb) (x0 : Array Value) (x1 : Addr) : fT C Tryz.prog { loop := [], join := [], anyOrder := [], pure := [] } n_impl_Collect_1 [(.agg x0), (.pointer (some x1))] = impl_Collect_1 C x0 x1 := by kernel_rfl
theorem impl_Collect_1_calls {R : Value → World → Prop} {w : World} (x0 : Array Value) (x1 : Addr) (h : (impl_Collect_1 (real Tryz.prog R) x0 x1 : World → Prop) w) :
    Calls Tryz.prog n_impl_Collect_1 [(.agg x0), (.pointer (some x1))].toArray w fun e w' => ∃ v, e = .returned v ∧ R v w' := fT_sound mixed { loop := [], join := [], anyOrder := [], pure := [] } (by rw [impl_Collect_1_eq]; exact h)

/-- (*spec.l05Store).store (82) -/
def ptr_spec_l05Store_store (C : Comb) (x0 : Addr) : C.St :=
  C.new ty_impl_Store (.agg (#[(.slice none 0 0)])) fun b2 =>
  C.pur (Instr.build ty_impl_Store #[]) .agg fun y5 =>
  C.new ty_impl_Store (.agg (#[(.slice none 0 0)])) fun b3 =>
  C.st 1 (Addr.mk b3 0 none) (.agg y5) <|
  C.loop (TL [(.int .i64)]) (embL [(.int .i64)]) [(.int .i64 0)] fun s4 ct4 => C.any fun _ =>
  C.ld .slice 1 (x0.add 0) fun v10 =>
  cond (decide (s4 < (v10.n : Int))) (
    C.draw <|
    C.ld .slice 1 ((Addr.mk b3 0 none).add 0) fun v16 =>
    C.ld .slice 1 (x0.add 0) fun v20 =>
    C.ix v20.a v20.n 2 s4 fun p22 =>
    C.ld .agg 2 p22 fun v23 =>
    C.call n_spec_l05Copy [(.agg v23)] [.agg] fun r24 =>
    C.chk [⟨5, 1, (x0.add 0), .slice, v20⟩, ⟨1, 1, ((Addr.mk b3 0 none).add 0), .slice, v16⟩] <|
    C.sem (Instr.buildSlice ty_sl_impl_Blob 1 #[(0, (.agg r24))]) .slice fun y25 =>
    C.chk [⟨5, 1, (x0.add 0), .slice, v20⟩, ⟨1, 1, ((Addr.mk b3 0 none).add 0), .slice, v16⟩] <|
    C.sem (Builtin.append_ #[ty_sl_impl_Blob, ty_sl_impl_Blob] ty_sl_impl_Blob #[(.slice v16.a v16.n v16.c), (.slice y25.a y25.n y25.c)]) .slice fun y26 =>
    C.chk [⟨5, 1, (x0.add 0), .slice, v20⟩] <|
    C.st 1 ((Addr.mk b3 0 none).add 0) (.slice y26.a y26.n y26.c) <|
    ct4 [(.int .i64 (IntKind.wrap .i64 (s4 + 1)))]
  ) (
    C.ld .agg 1 (Addr.mk b3 0 none) fun v28 =>
    C.st 1 (Addr.mk b2 0 none) (.agg v28) <|
    C.ld .agg 1 (Addr.mk b2 0 none) fun z14 =>
    C.ret (.agg z14)
  )
theorem ptr_spec_l05Store_store_eq (C : Comb) (x0 : Addr) : fT C Tryz.prog { loop := [(3, [(4, (.int .i64))])], join := [], anyOrder := [5], pure := [] } n_ptr_spec_l05Store_store [(.pointer (some x0))] = ptr_spec_l05Store_store C x0 := by kernel_rfl
theorem ptr_spec_l05Store_store_calls {R : Value → World → Prop} {w : World} (x0 : Addr) (h : (ptr_spec_l05Store_store (real Tryz.prog R) x0 : World → Prop) w) :
    Calls Tryz.prog n_ptr_spec_l05Store_store [(.pointer (some x0))].toArray w fun e w' => ∃ v, e = .returned v ∧ R v w' := fT_sound mixed { loop := [(3, [(4, (.int .i64))])], join := [], anyOrder := [5], pure := [] } (by rw [ptr_spec_l05Store_store_eq]; exact h)

/-- spec.l05SameBlob (83) -/
def spec_l05SameBlob (C : Comb) (x0 : Addr) (x1 : Addr) : C.St :=
  C.draw <|
  C.ld (.int .u8) 1 (x0.add 0) fun v8 =>
  C.ld (.int .u8) 1 (x1.add 0) fun v12 =>
  cond (v8 == v12) (
    C.all [
      (C.ld .slice 1 (x0.add 1) fun v18 =>
       C.chk [⟨7, 1, (x1.add 0), (.int .u8), v12⟩, ⟨3, 1, (x0.add 0), (.int .u8), v8⟩] <|
       C.ld .slice 1 (x1.add 1) fun v22 =>
       C.chk [⟨7, 1, (x1.add 0), (.int .u8), v12⟩, ⟨3, 1, (x0.add 0), (.int .u8), v8⟩] <|
       C.call n_spec_l01Bytes [(.slice v18.a v18.n v18.c), (.slice v22.a v22.n v22.c)] [.bool] fun r23 =>
       C.chk [⟨7, 1, (x1.add 0), (.int .u8), v12⟩, ⟨3, 1, (x0.add 0), (.int .u8), v8⟩] <|
       C.ret (.bool r23)),
      (C.ld .slice 1 (x1.add 1) fun v22 =>
       C.chk [⟨7, 1, (x1.add 0), (.int .u8), v12⟩, ⟨3, 1, (x0.add 0), (.int .u8), v8⟩] <|
       C.ld .slice 1 (x0.add 1) fun v18 =>
       C.chk [⟨7, 1, (x1.add 0), (.int .u8), v12⟩, ⟨3, 1, (x0.add 0), (.int .u8), v8⟩] <|
       C.call n_spec_l01Bytes [(.slice v18.a v18.n v18.c), (.slice v22.a v22.n v22.c)] [.bool] fun r23 =>
       C.chk [⟨7, 1, (x1.add 0), (.int .u8), v12⟩, ⟨3, 1, (x0.add 0), (.int .u8), v8⟩] <|
       C.ret (.bool r23))]
  ) (
    C.all [
      (C.chk [⟨7, 1, (x1.add 0), (.int .u8), v12⟩, ⟨3, 1, (x0.add 0), (.int .u8), v8⟩] <|
       C.chk [⟨7, 1, (x1.add 0), (.int .u8), v12⟩, ⟨3, 1, (x0.add 0), (.int .u8), v8⟩] <|
       C.chk [⟨7, 1, (x1.add 0), (.int .u8), v12⟩, ⟨3, 1, (x0.add 0), (.int .u8), v8⟩] <|
       C.ret (.bool false)),
      (C.chk [⟨7, 1, (x1.add 0), (.int .u8), v12⟩, ⟨3, 1, (x0.add 0), (.int .u8), v8⟩] <|
       C.chk [⟨7, 1, (x1.add 0), (.int .u8), v12⟩, ⟨3, 1, (x0.add 0), (.int .u8), v8⟩] <|
       C.chk [⟨7, 1, (x1.add 0), (.int .u8), v12⟩, ⟨3, 1, (x0.add 0), (.int .u8), v8⟩] <|
       C.ret (.bool false))]
  )
theorem spec_l05SameBlob_eq (C : Comb) (x0 : Addr) (x1 : Addr) : fT C Tryz.prog { loop := [], join := [], anyOrder := [1], pure := [] } n_spec_l05SameBlob [(.pointer (some x0)), (.pointer (some x1))] = spec_l05SameBlob C x0 x1 := by kernel_rfl
theorem spec_l05SameBlob_calls {R : Value → World → Prop} {w : World} (x0 : Addr) (x1 : Addr) (h : (spec_l05SameBlob (real Tryz.prog R) x0 x1 : World → Prop) w) :
    Calls Tryz.prog n_spec_l05SameBlob [(.pointer (some x0)), (.pointer (some x1))].toArray w fun e w' => ∃ v, e = .returned v ∧ R v w' := fT_sound mixed { loop := [], join := [], anyOrder := [1], pure := [] } (by rw [spec_l05SameBlob_eq]; exact h)

/-- laws.heldBlobS (84) -/
def laws_heldBlobS (C : Comb) (x0 : Sl) (x1 : Int) : C.St :=
  C.loop (TL [(.int .i64), (.int .i64)]) (embL [(.int .i64), (.int .i64)]) [(.int .i64 x1), (.int .i64 0)] fun s1 ct1 => C.any fun _ =>
  cond (decide (s1.2 < (x0.n : Int))) (
    C.ix x0.a x0.n 2 s1.2 fun p14 =>
    C.ld (.int .u8) 1 (p14.add 0) fun v16 =>
    cond (v16 != (IntKind.wrap .u8 (s1.1))) (
      C.ret (.int .i64 (-1))
    ) (
      C.ix x0.a x0.n 2 s1.2 fun p24 =>
      C.ld .slice 1 (p24.add 1) fun v26 =>
      C.call n_laws_heldByteS [(.slice v26.a v26.n v26.c), (.int .i64 (IntKind.wrap .i64 (s1.1 + 1)))] [(.int .i64)] fun r28 =>
      cond (decide (r28 < 0)) (
        C.ret (.int .i64 (-1))
      ) (
        ct1 [(.int .i64 r28), (.int .i64 (IntKind.wrap .i64 (s1.2 + 1)))]
      )
    )
  ) (
    C.ret (.int .i64 s1.1)
  )
theorem laws_heldBlobS_eq (C : Comb) (x0 : Sl) (x1 : Int) : fT C Tryz.prog { loop := [(2, [(1, (.int .i64)), (5, (.int .i64))])], join := [], anyOrder := [], pure := [] } n_laws_heldBlobS [(.slice x0.a x0.n x0.c), (.int .i64 x1)] = laws_heldBlobS C x0 x1 := by kernel_rfl
theorem laws_heldBlobS_calls {R : Value → World → Prop} {w : World} (x0 : Sl) (x1 : Int) (h : (laws_heldBlobS (real Tryz.prog R) x0 x1 : World → Prop) w) :
    Calls Tryz.prog n_laws_heldBlobS [(.slice x0.a x0.n x0.c), (.int .i64 x1)].toArray w fun e w' => ∃ v, e = .returned v ∧ R v w' := fT_sound mixed { loop := [(2, [(1, (.int .i64)), (5, (.int .i64))])], join := [], anyOrder := [], pure := [] } (by rw [laws_heldBlobS_eq]; exact h)

end Go.Proofs.YtghoeeiiaadngaaGreat
