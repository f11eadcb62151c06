/- Printed by a program of this claim's author: each Go function as a Lean function over abstract combinators, and the equation that says that T makes it of the loaded code. -/
import Derived.Test.YtffedfdhhglmkaaGreatSx2
import Derived.Test.YtffedfdhhglmkaaGreatProg
namespace Go.Proofs.YtffedfdhhglmkaaGreat
open Go.Sx
theorem mixed : Tryz.prog.follows .mixedOrders = true := by kernel_rfl

abbrev n_laws_FnExactChunkPartial : Nat := 3
abbrev n_laws_FnExactListProofFromCopy : Nat := 4
abbrev n_laws_FnExactLoadList : Nat := 5
abbrev n_laws_FnExactStoreList : Nat := 6
abbrev n_laws_FnExactStoreMap : Nat := 7
abbrev n_laws_FnExactLoadMap : Nat := 8
abbrev n_laws_FnExactGetPartial : Nat := 9
abbrev n_laws_FnExactRangePartial : Nat := 10
abbrev n_laws_szStore : Nat := 11
abbrev n_spec_ChunkPartial : Nat := 12
abbrev n_laws_toStore : Nat := 13
abbrev n_laws_toKey : Nat := 14
abbrev n_impl_ChunkPartial : Nat := 15
abbrev n_laws_eqByteS : Nat := 16
abbrev n_laws_eqKey : Nat := 17
abbrev n_laws_eqStore : Nat := 18
abbrev n_laws_markStore : Nat := 19
abbrev n_laws_markByteS : Nat := 20
abbrev n_laws_heldByteS : Nat := 21
abbrev n_spec_ListProofFromCopy : Nat := 22
abbrev n_impl_ListProofFromCopy : Nat := 23
abbrev n_laws_eqKeyS : Nat := 24
abbrev n_laws_markKeyS : Nat := 25
abbrev n_laws_heldKeyS : Nat := 26
abbrev n_spec_LoadList : Nat := 27
abbrev n_impl_LoadList : Nat := 28
abbrev n_laws_eqByteSS : Nat := 29
abbrev n_laws_markByteSS : Nat := 30
abbrev n_laws_heldByteSS : Nat := 31
abbrev n_laws_szByteSS : Nat := 32
abbrev n_spec_StoreList : Nat := 33
abbrev n_laws_toByteSS : Nat := 34
abbrev n_impl_StoreList : Nat := 35
abbrev n_laws_heldStore : Nat := 36
abbrev n_laws_szEntryS : Nat := 37
abbrev n_spec_StoreMap : Nat := 38
abbrev n_laws_toEntryS : Nat := 39
abbrev n_impl_StoreMap : Nat := 40
abbrev n_laws_eqEntryS : Nat := 41
abbrev n_laws_markEntryS : Nat := 42
abbrev n_spec_LoadMap : Nat := 43
abbrev n_impl_LoadMap : Nat := 44
abbrev n_laws_heldEntryS : Nat := 45
abbrev n_spec_GetPartial : Nat := 46
abbrev n_impl_GetPartial : Nat := 47
abbrev n_spec_RangePartial : Nat := 48
abbrev n_impl_RangePartial : Nat := 49
abbrev n_laws_szBlobS : Nat := 50
abbrev n_spec_l05Open : Nat := 51
abbrev n_spec_l08Leaf : Nat := 52
abbrev n_spec_l08Chunk : Nat := 53
abbrev n_laws_toBlobS : Nat := 54
abbrev n_impl_openChunk : Nat := 55
abbrev n_ptr_impl_shop_chunk : Nat := 56
abbrev n_laws_eqBlobS : Nat := 57
abbrev n_laws_markBlobS : Nat := 58
abbrev n_spec_l00In : Nat := 59
abbrev n_ptr_spec_l05Leaves_tree : Nat := 60
abbrev n_impl_newShop : Nat := 61
abbrev n_impl_within : Nat := 62
abbrev n_ptr_impl_lister_load : Nat := 63
abbrev n_impl_LoadList_1 : Nat := 64
abbrev n_slices_Clone_sl_byte_byte : Nat := 65
abbrev n_laws_szByteS : Nat := 66
abbrev n_ptr_spec_l05Store_put : Nat := 67
abbrev n_spec_l05Made : Nat := 68
abbrev n_ptr_spec_l05Store_list : Nat := 69
abbrev n_laws_toByteS : Nat := 70
abbrev n_slices_ContainsFunc_sl_sl_byte_sl_byte : Nat := 71
abbrev n_impl_StoreList_1 : Nat := 72
abbrev n_impl_Blob_key : Nat := 73
abbrev n_impl_listBlobs : Nat := 74
abbrev n_ptr_impl_shop_putAll : Nat := 75
abbrev n_impl_listKey : Nat := 76
abbrev n_laws_heldBlobS : Nat := 77
abbrev n_laws_szEntry : Nat := 78
abbrev n_spec_l04Ok : Nat := 79
abbrev n_spec_l04Nodes : Nat := 80
abbrev n_spec_l04Bytes : Nat := 81
abbrev n_laws_toEntry : Nat := 82
abbrev n_impl_ValidEntries : Nat := 83
abbrev n_impl_allNodes : Nat := 84
abbrev n_impl_MapNode_bytes : Nat := 85
abbrev n_impl_treeOf : Nat := 86
abbrev n_ptr_impl_tree_key : Nat := 87
abbrev n_laws_eqEntry : Nat := 88
abbrev n_laws_markText : Nat := 89
abbrev n_spec_l05LoadMap : Nat := 90
abbrev n_impl_newMapper : Nat := 91
abbrev n_ptr_impl_mapper_load : Nat := 92
abbrev n_spec_l04Name : Nat := 93
abbrev n_spec_l08Get : Nat := 94
abbrev n_impl_isName : Nat := 95
abbrev n_ptr_impl_shop_partial : Nat := 96
abbrev n_ptr_spec_l08Walk_tree : Nat := 97
abbrev n_impl_copyMapper : Nat := 98
abbrev n_ptr_impl_mapper_walk : Nat := 99
abbrev n_impl_RangePartial_1 : Nat := 100
abbrev n_impl_RangePartial_2 : Nat := 101
abbrev n_impl_RangePartial_3 : Nat := 102
abbrev n_impl_RangePartial_4 : Nat := 103
abbrev n_impl_toldCode : Nat := 104
abbrev n_laws_szBlob : Nat := 105
abbrev n_spec_l05Blob : Nat := 106
abbrev n_spec_l05Key : Nat := 107
abbrev n_spec_l01Compare : Nat := 108
abbrev n_ptr_spec_l05Store_find : Nat := 109
abbrev n_spec_l05Keys : Nat := 110
abbrev n_spec_l03Half : Nat := 111
abbrev n_laws_toBlob : Nat := 112
abbrev n_impl_isLeaves : Nat := 113
abbrev n_ptr_impl_lister_pair : Nat := 114
abbrev n_impl_leftOf : Nat := 115
abbrev n_ptr_impl_lister_blob : Nat := 116
abbrev n_slices_Reverse_sl_impl_Key_impl_Key : Nat := 117
abbrev n_laws_eqBlob : Nat := 118
abbrev n_impl_ValidStore : Nat := 119
abbrev n_impl_Store_keys : Nat := 120
abbrev n_slices_Clone_sl_impl_Blob_impl_Blob : Nat := 121
abbrev n_spec_l05SameBlob : Nat := 122
abbrev n_ptr_spec_l05Store_store : Nat := 123
abbrev n_slices_IndexFunc_sl_sl_byte_sl_byte : Nat := 124
abbrev n_impl_hash : Nat := 125
abbrev n_impl_size_impl_Key : Nat := 126
abbrev n_slices_Concat_sl_byte_byte : Nat := 127
abbrev n_ptr_impl_shop_put : Nat := 128
abbrev n_ptr_impl_shop_store : Nat := 129
abbrev n_impl_NodeKey : Nat := 130
abbrev n_spec_l04Entry : Nat := 131
abbrev n_spec_l04Empty : Nat := 132
abbrev n_spec_l04Top : Nat := 133
abbrev n_spec_l04NodeKey : Nat := 134
abbrev n_impl_ValidEntry : Nat := 135
abbrev n_impl_allNodes_1 : Nat := 136
abbrev n_ptr_impl_tree_nodes : Nat := 137
abbrev n_impl_grow : Nat := 138
abbrev n_impl_EmptyMapKey : Nat := 139
abbrev n_impl_MapNode_key : Nat := 140
abbrev n_ptr_spec_l05Load_tree : Nat := 141
abbrev n_ptr_impl_mapper_load_1 : Nat := 142
abbrev n_ptr_impl_mapper_load_2 : Nat := 143
abbrev n_ptr_impl_mapper_load_3 : Nat := 144
abbrev n_spec_l08Path : Nat := 145
abbrev n_ptr_impl_mapper_descend : Nat := 146
abbrev n_spec_l08Node : Nat := 147
abbrev n_ptr_impl_mapper_node : Nat := 148
abbrev n_spec_l01Hash : Nat := 149
abbrev n_math_bits_Len64 : Nat := 150
abbrev n_ptr_impl_shop_get : Nat := 151
abbrev n_slices_ContainsFunc_sl_impl_Blob_impl_Blob : Nat := 152
abbrev n_impl_ValidStore_1 : Nat := 153
abbrev n_impl_ValidBlob : Nat := 154
abbrev n_impl_sorted : Nat := 155
abbrev n_slices_IsSortedFunc_sl_impl_Key_impl_Key : Nat := 156
abbrev n_impl_compareKeys : Nat := 157
abbrev n_spec_l01Bytes : Nat := 158
abbrev n_spec_l05Copy : Nat := 159
abbrev n_impl_blocks : Nat := 160
abbrev n_impl_padding : Nat := 161
abbrev n_impl_size_byte : Nat := 162
abbrev n_impl_keyOf : Nat := 163
abbrev n_impl_mixed : Nat := 164
abbrev n_impl_StartState : Nat := 165
abbrev n_slices_Grow_sl_byte_byte : Nat := 166
abbrev n_ptr_impl_shop_find : Nat := 167
abbrev n_impl_SameBlob : Nat := 168
abbrev n_slices_Insert_sl_impl_Key_impl_Key : Nat := 169
abbrev n_slices_Insert_sl_impl_Blob_impl_Blob : Nat := 170
abbrev n_impl_Blob_copied : Nat := 171
abbrev n_impl_PairKey : Nat := 172
abbrev n_spec_l04Priority : Nat := 173
abbrev n_spec_l04Read : Nat := 174
abbrev n_impl_MapNode_next : Nat := 175
abbrev n_impl_ReadMapNode : Nat := 176
abbrev n_spec_l01End : Nat := 177
abbrev n_spec_l01Start : Nat := 178
abbrev n_slices_IndexFunc_sl_impl_Blob_impl_Blob : Nat := 179
abbrev n_slices_Clone_sl_impl_Key_impl_Key : Nat := 180
abbrev n_slices_SortFunc_sl_impl_Key_impl_Key : Nat := 181
abbrev n_slices_Compact_sl_impl_Key_impl_Key : Nat := 182
abbrev n_slices_Compare_sl_byte_byte : Nat := 183
abbrev n_impl_appendLittle : Nat := 184
abbrev n_impl_MixBlock : Nat := 185
abbrev n_slices_BinarySearchFunc_sl_impl_Key_impl_Key_impl_Key : Nat := 186
abbrev n_bytes_Equal : Nat := 187
abbrev n_slices_overlaps_impl_Key : Nat := 188
abbrev n_slices_rotateRight_impl_Key : Nat := 189
abbrev n_slices_overlaps_impl_Blob : Nat := 190
abbrev n_slices_rotateRight_impl_Blob : Nat := 191
abbrev n_spec_l01Padded : Nat := 192
abbrev n_spec_l01Mix : Nat := 193
abbrev n_spec_l01Block : Nat := 194
abbrev n_slices_pdqsortCmpFunc_impl_Key : Nat := 195
abbrev n_math_bits_Len : Nat := 196
abbrev n_cmp_Compare_byte : Nat := 197
abbrev n_impl_littleNumber : Nat := 198
abbrev n_math_bits_RotateLeft32 : Nat := 199
abbrev n_slices_rotateLeft_impl_Key : Nat := 200
abbrev n_slices_rotateLeft_impl_Blob : Nat := 201
abbrev n_spec_l01Turn : Nat := 202
abbrev n_slices_insertionSortCmpFunc_impl_Key : Nat := 203
abbrev n_slices_heapSortCmpFunc_impl_Key : Nat := 204
abbrev n_slices_breakPatternsCmpFunc_impl_Key : Nat := 205
abbrev n_slices_choosePivotCmpFunc_impl_Key : Nat := 206
abbrev n_slices_reverseRangeCmpFunc_impl_Key : Nat := 207
abbrev n_slices_partialInsertionSortCmpFunc_impl_Key : Nat := 208
abbrev n_slices_partitionEqualCmpFunc_impl_Key : Nat := 209
abbrev n_slices_partitionCmpFunc_impl_Key : Nat := 210
abbrev n_math_bits_Len32 : Nat := 211
abbrev n_cmp_isNaN_byte : Nat := 212
abbrev n_slices_Reverse_sl_impl_Blob_impl_Blob : Nat := 213
abbrev n_slices_siftDownCmpFunc_impl_Key : Nat := 214
abbrev n_slices_nextPowerOfTwo : Nat := 215
abbrev n_ptr_slices_xorshift_Next : Nat := 216
abbrev n_slices_medianAdjacentCmpFunc_impl_Key : Nat := 217
abbrev n_slices_medianCmpFunc_impl_Key : Nat := 218
abbrev n_slices_order2CmpFunc_impl_Key : Nat := 219
abbrev ty_x : Nat := 0
abbrev ty_func : Nat := 1
abbrev ty_int64 : Nat := 2
abbrev ty_int : Nat := 3
abbrev ty_bool : Nat := 4
abbrev ty_uint8 : Nat := 5
abbrev ty_internal_abi_BoundsErrorCode : Nat := 6
abbrev ty_struct_x_int64_y_int_signed_bool_code_abi_BoundsErrorCode : Nat := 7
abbrev ty_runtime_boundsError : Nat := 8
abbrev ty_string : Nat := 9
abbrev ty_runtime_errorString : Nat := 10
abbrev ty_runtime_plainError : Nat := 11
abbrev ty_uintptr : Nat := 12
abbrev ty_struct_msg_string_addr_uintptr : Nat := 13
abbrev ty_runtime_errorAddressString : Nat := 14
abbrev ty_ptr_runtime_TypeAssertionError : Nat := 15
abbrev ty_ptr_runtime_PanicNilError : Nat := 16
abbrev ty_ptr_abi_Type : Nat := 17
abbrev ty_struct_typ_ptr_abi_Type : Nat := 18
abbrev ty_internal_runtime_maps_unhashableTypeError : Nat := 19
abbrev ty_interface : Nat := 20
abbrev ty_int32 : Nat := 21
abbrev ty_sl_laws_Blob : Nat := 22
abbrev ty_struct_Blobs_sl_laws_Blob : Nat := 23
abbrev ty_laws_Store : Nat := 24
abbrev ty_arr32_uint8 : Nat := 25
abbrev ty_func_laws_Store_int_int : Nat := 26
abbrev ty_sl_uint8 : Nat := 27
abbrev ty_impl_Key : Nat := 28
abbrev ty_sl_uint8_impl_Key_int64 : Nat := 29
abbrev ty_func_impl_Store_impl_Key_int64_int64_sl_uint8_impl_Key_int64 : Nat := 30
abbrev ty_sl_impl_Blob : Nat := 31
abbrev ty_struct_Blobs_sl_impl_Blob : Nat := 32
abbrev ty_impl_Store : Nat := 33
abbrev ty_func_laws_Store_impl_Store : Nat := 34
abbrev ty_func_arr32_uint8_impl_Key : Nat := 35
abbrev ty_func_sl_uint8_sl_uint8_bool : Nat := 36
abbrev ty_func_impl_Key_impl_Key_bool : Nat := 37
abbrev ty_func_impl_Store_impl_Store_bool : Nat := 38
abbrev ty_func_impl_Store_int_int : Nat := 39
abbrev ty_func_sl_uint8_int_int : Nat := 40
abbrev ty_func_laws_Store_arr32_uint8_int64_int64_bool : Nat := 41
abbrev ty_sl_impl_Key : Nat := 42
abbrev ty_sl_impl_Key_impl_Key_int64 : Nat := 43
abbrev ty_func_impl_Store_impl_Key_int64_int64_sl_impl_Key_impl_Key_int64 : Nat := 44
abbrev ty_func_sl_impl_Key_sl_impl_Key_bool : Nat := 45
abbrev ty_func_sl_impl_Key_int_int : Nat := 46
abbrev ty_sl_sl_uint8 : Nat := 47
abbrev ty_sl_sl_uint8_impl_Key_int64 : Nat := 48
abbrev ty_func_impl_Store_impl_Key_int64_sl_sl_uint8_impl_Key_int64 : Nat := 49
abbrev ty_func_sl_sl_uint8_sl_sl_uint8_bool : Nat := 50
abbrev ty_func_sl_sl_uint8_int_int : Nat := 51
abbrev ty_func_laws_Store_arr32_uint8_int64_bool : Nat := 52
abbrev ty_impl_Store_impl_Key_int64 : Nat := 53
abbrev ty_func_impl_Store_sl_sl_uint8_impl_Store_impl_Key_int64 : Nat := 54
abbrev ty_func_sl_sl_uint8_sl_sl_uint8 : Nat := 55
abbrev ty_func_laws_Store_sl_sl_uint8_bool : Nat := 56
abbrev ty_sl_laws_Entry : Nat := 57
abbrev ty_func_sl_laws_Entry_int_int : Nat := 58
abbrev ty_func_impl_Store_sl_impl_Entry_impl_Store_impl_Key_int64 : Nat := 59
abbrev ty_sl_impl_Entry : Nat := 60
abbrev ty_func_sl_laws_Entry_sl_impl_Entry : Nat := 61
abbrev ty_func_sl_impl_Entry_sl_impl_Entry_bool : Nat := 62
abbrev ty_func_sl_impl_Entry_int_int : Nat := 63
abbrev ty_func_laws_Store_sl_laws_Entry_bool : Nat := 64
abbrev ty_sl_impl_Entry_impl_Key_int64 : Nat := 65
abbrev ty_func_impl_Store_impl_Key_sl_impl_Entry_impl_Key_int64 : Nat := 66
abbrev ty_func_laws_Store_arr32_uint8_bool : Nat := 67
abbrev ty_string_impl_Key_int64 : Nat := 68
abbrev ty_func_impl_Store_impl_Key_string_string_impl_Key_int64 : Nat := 69
abbrev ty_func_laws_Store_arr32_uint8_string_bool : Nat := 70
abbrev ty_func_impl_Store_impl_Key_string_string_sl_impl_Entry_impl_Key_int64 : Nat := 71
abbrev ty_func_laws_Store_arr32_uint8_string_string_bool : Nat := 72
abbrev ty_func_sl_laws_Blob_int_int : Nat := 73
abbrev ty_ptr_spec_l05Store : Nat := 74
abbrev ty_ptr_spec_l05Store_bool : Nat := 75
abbrev ty_func_ptr_impl_Store_ptr_spec_l05Store_bool : Nat := 76
abbrev ty_ptr_impl_Store : Nat := 77
abbrev ty_func_int64_int64_bool : Nat := 78
abbrev ty_sl_uint8_sl_impl_Key_impl_Key_int64 : Nat := 79
abbrev ty_func_ptr_spec_l05Store_impl_Key_int64_int64_sl_uint8_sl_impl_Key_impl_Key_int64 : Nat := 80
abbrev ty_func_sl_laws_Blob_sl_impl_Blob : Nat := 81
abbrev ty_ptr_impl_shop : Nat := 82
abbrev ty_ptr_impl_shop_int64 : Nat := 83
abbrev ty_func_impl_Store_int64_int64_ptr_impl_shop_int64 : Nat := 84
abbrev ty_func_impl_Key_int64_int64_sl_uint8_sl_impl_Key_impl_Key_int64 : Nat := 85
abbrev ty_func_sl_impl_Blob_sl_impl_Blob_bool : Nat := 86
abbrev ty_func_sl_impl_Blob_int_int : Nat := 87
abbrev ty_func_int64_int64_int64_bool : Nat := 88
abbrev ty_ptr_spec_l05Leaves : Nat := 89
abbrev ty_struct_x_ptr_spec_l05Store_out_sl_sl_uint8_missing_impl_Key_code_int64 : Nat := 90
abbrev ty_spec_l05Leaves : Nat := 91
abbrev ty_func_impl_Key_int64 : Nat := 92
abbrev ty_ptr_impl_shop_bool : Nat := 93
abbrev ty_func_impl_Store_ptr_impl_shop_bool : Nat := 94
abbrev ty_ptr_impl_lister : Nat := 95
abbrev ty_struct_shop_ptr_impl_shop_want_impl_Key : Nat := 96
abbrev ty_impl_lister : Nat := 97
abbrev ty_func_impl_Key_int64_func_sl_uint8_int64 : Nat := 98
abbrev ty_func_sl_uint8_sl_uint8 : Nat := 99
abbrev ty_func_sl_uint8 : Nat := 100
abbrev ty_impl_Key_int64 : Nat := 101
abbrev ty_func_impl_Blob_impl_Key_int64 : Nat := 102
abbrev ty_struct_Tag_uint8_Data_sl_uint8 : Nat := 103
abbrev ty_impl_Blob : Nat := 104
abbrev ty_func_ptr_spec_l05Store_impl_Key_int64_impl_Store_impl_Key_int64 : Nat := 105
abbrev ty_func_sl_impl_Key_impl_Key_int64 : Nat := 106
abbrev ty_func_sl_sl_uint8_func_sl_uint8_bool_bool : Nat := 107
abbrev ty_func_sl_uint8_bool : Nat := 108
abbrev ty_func_impl_Key : Nat := 109
abbrev ty_func_sl_impl_Key_sl_impl_Blob : Nat := 110
abbrev ty_func_impl_Blob_impl_Store_impl_Key_int64 : Nat := 111
abbrev ty_func_sl_impl_Key_impl_Key : Nat := 112
abbrev ty_func_laws_Entry_int_int : Nat := 113
abbrev ty_struct_Name_string_Value_string : Nat := 114
abbrev ty_laws_Entry : Nat := 115
abbrev ty_func_sl_impl_Entry_bool : Nat := 116
abbrev ty_sl_impl_MapNode : Nat := 117
abbrev ty_sl_impl_MapNode_impl_Key : Nat := 118
abbrev ty_func_sl_impl_Entry_sl_impl_MapNode_impl_Key : Nat := 119
abbrev ty_func_ptr_impl_MapNode_sl_uint8 : Nat := 120
abbrev ty_ptr_impl_MapNode : Nat := 121
abbrev ty_impl_Entry : Nat := 122
abbrev ty_struct_Left_impl_Key_Right_impl_Key_Entry_impl_Entry : Nat := 123
abbrev ty_impl_MapNode : Nat := 124
abbrev ty_func_laws_Entry_impl_Entry : Nat := 125
abbrev ty_func_sl_impl_Entry_sl_impl_MapNode : Nat := 126
abbrev ty_func_sl_uint8_127 : Nat := 127
abbrev ty_ptr_impl_tree : Nat := 128
abbrev ty_func_sl_impl_Entry_ptr_impl_tree : Nat := 129
abbrev ty_func_impl_Entry_impl_Entry_bool : Nat := 130
abbrev ty_func_int_string : Nat := 131
abbrev ty_func_ptr_spec_l05Store_impl_Key_sl_impl_Entry_impl_Key_int64 : Nat := 132
abbrev ty_ptr_impl_mapper : Nat := 133
abbrev ty_func_ptr_impl_shop_ptr_impl_mapper : Nat := 134
abbrev ty_sl_impl_Entry_int64 : Nat := 135
abbrev ty_func_impl_Key_sl_impl_Entry_int64 : Nat := 136
abbrev ty_struct_shop_ptr_impl_shop_empty_impl_Key_many_int_loose_bool_want_impl_Key : Nat := 137
abbrev ty_impl_mapper : Nat := 138
abbrev ty_func_string_bool : Nat := 139
abbrev ty_func_ptr_spec_l05Store_impl_Key_string_string_impl_Key_int64 : Nat := 140
abbrev ty_func_impl_Key_string_string_impl_Key_int64 : Nat := 141
abbrev ty_ptr_spec_l08Walk : Nat := 142
abbrev ty_struct_x_ptr_spec_l05Store_from_string_to_string_out_sl_impl_Entry_seen_int_missing_impl_Key_code_int64 : Nat := 143
abbrev ty_spec_l08Walk : Nat := 144
abbrev ty_func_impl_Key_145 : Nat := 145
abbrev ty_func_impl_Key_ptr_string_ptr_string_func_string_bool_func_string_bool_func_impl_MapNode_func_impl_Entry_int64 : Nat := 146
abbrev ty_func_impl_MapNode : Nat := 147
abbrev ty_func_impl_Entry : Nat := 148
abbrev ty_func_int64_int64 : Nat := 149
abbrev ty_func_laws_Blob_int_int : Nat := 150
abbrev ty_laws_Blob : Nat := 151
abbrev ty_struct_blobs_sl_impl_Blob_keys_sl_impl_Key : Nat := 152
abbrev ty_spec_l05Store : Nat := 153
abbrev ty_func_ptr_impl_Blob_bool : Nat := 154
abbrev ty_ptr_impl_Blob : Nat := 155
abbrev ty_func_ptr_impl_Blob_impl_Key : Nat := 156
abbrev ty_func_impl_Key_impl_Key_int64 : Nat := 157
abbrev ty_func_impl_Key_int : Nat := 158
abbrev ty_func_sl_uint8_int_int_sl_impl_Key : Nat := 159
abbrev ty_func_laws_Blob_impl_Blob : Nat := 160
abbrev ty_func_int64_bool : Nat := 161
abbrev ty_impl_Key_impl_Key_int64 : Nat := 162
abbrev ty_func_impl_Key_impl_Key_impl_Key_int64 : Nat := 163
abbrev ty_sl_uint8_int64 : Nat := 164
abbrev ty_func_impl_Key_uint8_int_sl_uint8_int64 : Nat := 165
abbrev ty_func_sl_impl_Key : Nat := 166
abbrev ty_func_impl_Blob_impl_Blob_bool : Nat := 167
abbrev ty_func_impl_Store_bool : Nat := 168
abbrev ty_func_sl_impl_Key_169 : Nat := 169
abbrev ty_func_sl_impl_Blob_sl_impl_Blob : Nat := 170
abbrev ty_struct_keys_sl_impl_Key_blobs_sl_impl_Blob : Nat := 171
abbrev ty_impl_shop : Nat := 172
abbrev ty_func_ptr_impl_Blob_ptr_impl_Blob_bool : Nat := 173
abbrev ty_func_impl_Store : Nat := 174
abbrev ty_func_sl_sl_uint8_func_sl_uint8_bool_int : Nat := 175
abbrev ty_func_uint8_sl_uint8_impl_Key : Nat := 176
abbrev ty_func_sl_impl_Key_int64 : Nat := 177
abbrev ty_func_sl_uint8_sl_uint8_178 : Nat := 178
abbrev ty_func_impl_Key_impl_Key_impl_Key : Nat := 179
abbrev ty_func_ptr_impl_Entry_bool : Nat := 180
abbrev ty_ptr_impl_Entry : Nat := 181
abbrev ty_func_sl_impl_Entry_int : Nat := 182
abbrev ty_func_ptr_impl_MapNode_impl_Key : Nat := 183
abbrev ty_func_impl_Entry_bool : Nat := 184
abbrev ty_func_func_string_bool_func_string_bool_sl_impl_MapNode : Nat := 185
abbrev ty_func_sl_impl_Entry_sl_impl_Key_ptr_impl_tree : Nat := 186
abbrev ty_struct_node_impl_MapNode_left_ptr_impl_tree_right_ptr_impl_tree : Nat := 187
abbrev ty_impl_tree : Nat := 188
abbrev ty_ptr_spec_l05Load : Nat := 189
abbrev ty_struct_x_ptr_spec_l05Store_out_sl_impl_Entry_seen_int_missing_impl_Key_code_int64 : Nat := 190
abbrev ty_spec_l05Load : Nat := 191
abbrev ty_func_impl_Key_string_string_bool : Nat := 192
abbrev ty_sl_impl_MapNode_impl_Key_int64 : Nat := 193
abbrev ty_func_ptr_spec_l05Store_impl_Key_string_sl_impl_MapNode_impl_Key_int64 : Nat := 194
abbrev ty_sl_impl_MapNode_int64 : Nat := 195
abbrev ty_func_impl_Key_string_sl_impl_MapNode_int64 : Nat := 196
abbrev ty_impl_MapNode_int64 : Nat := 197
abbrev ty_func_ptr_spec_l05Store_impl_Key_impl_MapNode_int64 : Nat := 198
abbrev ty_ptr_string : Nat := 199
abbrev ty_func_impl_Key_ptr_string_ptr_string_impl_MapNode_int64 : Nat := 200
abbrev ty_func_uint64_int : Nat := 201
abbrev ty_uint64 : Nat := 202
abbrev ty_impl_Blob_bool : Nat := 203
abbrev ty_func_impl_Key_impl_Blob_bool : Nat := 204
abbrev ty_func_sl_impl_Blob_func_impl_Blob_bool_bool : Nat := 205
abbrev ty_func_impl_Blob_bool : Nat := 206
abbrev ty_func_sl_impl_Key_sl_impl_Key : Nat := 207
abbrev ty_func_sl_impl_Key_func_impl_Key_impl_Key_int_bool : Nat := 208
abbrev ty_func_impl_Key_impl_Key_int : Nat := 209
abbrev ty_func_impl_Blob_impl_Blob : Nat := 210
abbrev ty_sl_arr32_uint8 : Nat := 211
abbrev ty_sl_arr32_uint8_sl_uint8 : Nat := 212
abbrev ty_func_sl_uint8_sl_arr32_uint8_sl_uint8 : Nat := 213
abbrev ty_func_int64_sl_uint8 : Nat := 214
abbrev ty_func_sl_uint8_int64 : Nat := 215
abbrev ty_func_arr8_uint32_impl_Key : Nat := 216
abbrev ty_uint32 : Nat := 217
abbrev ty_arr8_uint32 : Nat := 218
abbrev ty_func_arr8_uint32_sl_arr32_uint8_arr8_uint32 : Nat := 219
abbrev ty_func_uint8_arr8_uint32 : Nat := 220
abbrev ty_func_sl_uint8_int_sl_uint8 : Nat := 221
abbrev ty_int_bool : Nat := 222
abbrev ty_func_impl_Key_int_bool : Nat := 223
abbrev ty_func_sl_impl_Key_int_impl_Key_sl_impl_Key : Nat := 224
abbrev ty_func_sl_impl_Blob_int_impl_Blob_sl_impl_Blob : Nat := 225
abbrev ty_func_impl_Blob : Nat := 226
abbrev ty_func_uint8_impl_Key_impl_Key_impl_Key : Nat := 227
abbrev ty_func_string_impl_Key : Nat := 228
abbrev ty_impl_MapNode_bool : Nat := 229
abbrev ty_func_sl_uint8_impl_MapNode_bool : Nat := 230
abbrev ty_func_sl_uint8_impl_MapNode_int64 : Nat := 231
abbrev ty_func_arr8_uint32_sl_uint8_int64_impl_Key : Nat := 232
abbrev ty_uint : Nat := 233
abbrev ty_func_sl_impl_Blob_func_impl_Blob_bool_int : Nat := 234
abbrev ty_func_sl_impl_Key_func_impl_Key_impl_Key_int : Nat := 235
abbrev ty_func_sl_uint8_sl_uint8_int : Nat := 236
abbrev ty_func_sl_uint8_uint64_int_sl_uint8 : Nat := 237
abbrev ty_func_arr8_uint32_arr32_uint8_arr8_uint32 : Nat := 238
abbrev ty_func_sl_impl_Key_impl_Key_func_impl_Key_impl_Key_int_int_bool : Nat := 239
abbrev ty_func_sl_impl_Key_int : Nat := 240
abbrev ty_func_sl_impl_Blob_int : Nat := 241
abbrev ty_func_sl_uint8_int64_sl_uint8 : Nat := 242
abbrev ty_func_sl_uint8_int_arr32_uint8 : Nat := 243
abbrev ty_func_sl_impl_Key_int_int_int_func_impl_Key_impl_Key_int : Nat := 244
abbrev ty_func_uint_int : Nat := 245
abbrev ty_func_uint8_uint8_int : Nat := 246
abbrev ty_func_sl_uint8_uint64 : Nat := 247
abbrev ty_func_uint32_int_uint32 : Nat := 248
abbrev ty_func_uint32_uint_uint32 : Nat := 249
abbrev ty_func_sl_impl_Key_int_int_func_impl_Key_impl_Key_int : Nat := 250
abbrev ty_slices_sortedHint : Nat := 251
abbrev ty_int_slices_sortedHint : Nat := 252
abbrev ty_func_sl_impl_Key_int_int_func_impl_Key_impl_Key_int_int_slices_sortedHint : Nat := 253
abbrev ty_func_sl_impl_Key_int_int_func_impl_Key_impl_Key_int_bool : Nat := 254
abbrev ty_func_sl_impl_Key_int_int_int_func_impl_Key_impl_Key_int_int : Nat := 255
abbrev ty_func_sl_impl_Key_int_int_int_func_impl_Key_impl_Key_int_int_bool : Nat := 256
abbrev ty_func_uint32_int : Nat := 257
abbrev ty_func_uint8_bool : Nat := 258
abbrev ty_func_sl_impl_Blob : Nat := 259
abbrev ty_slices_xorshift : Nat := 260
abbrev ty_func_int_uint : Nat := 261
abbrev ty_func_uint64 : Nat := 262
abbrev ty_func_sl_impl_Key_int_ptr_int_func_impl_Key_impl_Key_int_int : Nat := 263
abbrev ty_ptr_int : Nat := 264
abbrev ty_func_sl_impl_Key_int_int_int_ptr_int_func_impl_Key_impl_Key_int_int : Nat := 265
abbrev ty_ptr_slices_xorshift : Nat := 266
abbrev ty_int_int : Nat := 267
abbrev ty_func_sl_impl_Key_int_int_ptr_int_func_impl_Key_impl_Key_int_int_int : Nat := 268
abbrev ty_func_string : Nat := 269
abbrev ty_struct_interface_ptr_abi_Type_concrete_ptr_abi_Type_asserted_ptr_abi_Type_missingMethod_string : Nat := 270
abbrev ty_runtime_TypeAssertionError : Nat := 271
abbrev ty_arr0_ptr_runtime_PanicNilError : Nat := 272
abbrev ty_struct_arr0_ptr_runtime_PanicNilError : Nat := 273
abbrev ty_runtime_PanicNilError : Nat := 274
abbrev ty_func_int : Nat := 275
abbrev ty_internal_abi_TFlag : Nat := 276
abbrev ty_internal_abi_Kind : Nat := 277
abbrev ty_func_unsafe_Pointer_unsafe_Pointer_bool : Nat := 278
abbrev ty_ptr_uint8 : Nat := 279
abbrev ty_internal_abi_NameOff : Nat := 280
abbrev ty_internal_abi_TypeOff : Nat := 281
abbrev ty_struct_Size_uintptr_PtrBytes_uintptr_Hash_uint32_TFlag_abi_TFlag_Align_uint8_FieldAlign_uint8_Kind_abi_Kind_Equal_func_unsafe_Pointer_unsafe_Pointer_bool_GCData_ptr_uint8_Str_abi_NameOff_PtrToThis_abi_TypeOff : Nat := 282
abbrev ty_internal_abi_Type : Nat := 283
abbrev ty_func_sl_int64 : Nat := 284
abbrev ty_unsafe_Pointer : Nat := 285
abbrev ty_sl_int64 : Nat := 286

/-- laws.FnExactChunkPartial (3) -/
def laws_FnExactChunkPartial (C : Comb) (x0 : Array Value) (x1 : Array Value) (x2 : Int) (x3 : Int) : C.St :=
  C.new ty_laws_Store (.agg x0) fun b4 =>
  C.new ty_arr32_uint8 (.agg x1) fun b5 =>
  C.ld .agg 1 (Addr.mk b4 0 none) fun v23 =>
  C.call n_laws_szStore [(.agg v23), (.int .i64 1048576)] [(.int .i64)] fun r25 =>
  cond (decide (r25 < 0)) (
    C.ret (.bool true)
  ) (
    C.join (TL [.slice, .ptr, (.int .i64)]) (embL [.slice, .ptr, (.int .i64)]) (fun s20 => C.any fun _ =>
        C.ld .agg 1 (Addr.mk b4 0 none) fun v39 =>
        C.call n_laws_toStore [(.agg v39)] [.agg] fun r40 =>
        C.new ty_impl_Store (.agg (#[(.slice none 0 0)])) fun b13 =>
        C.st 1 (Addr.mk b13 0 none) (.agg r40) <|
        C.join (TL [.slice, .ptr, (.int .i64)]) (embL [.slice, .ptr, (.int .i64)]) (fun s34 => C.any fun _ =>
            C.join (TL []) (embL []) (fun s39 => C.any fun _ =>
                C.join (TL []) (embL []) (fun s44 => C.any fun _ =>
                    C.ld .agg 1 (Addr.mk b13 0 none) fun v71 =>
                    C.call n_laws_markStore [(.agg v71), (.int .i64 1)] [(.int .i64)] fun r73 =>
                    C.join (TL []) (embL []) (fun s51 => C.any fun _ =>
                        C.call n_laws_markByteS [(.slice s34.1.a s34.1.n s34.1.c), (.int .i64 1)] [(.int .i64)] fun r95 =>
                        C.call n_laws_heldByteS [(.slice s34.1.a s34.1.n s34.1.c), (.int .i64 1)] [(.int .i64)] fun r98 =>
                        cond (decide (r98 < 0)) (
                          C.ret (.bool false)
                        ) (
                          cond (r98 != r95) (
                            C.ret (.bool false)
                          ) (
                            C.join (TL [.slice, .ptr, (.int .i64)]) (embL [.slice, .ptr, (.int .i64)]) (fun s69 => C.any fun _ =>
                                C.join (TL []) (embL []) (fun s74 => C.any fun _ =>
                                    C.call n_laws_heldByteS [(.slice s34.1.a s34.1.n s34.1.c), (.int .i64 1)] [(.int .i64)] fun r132 =>
                                    cond (decide (r132 < 0)) (
                                      C.ret (.bool false)
                                    ) (
                                      cond (r132 != r95) (
                                        C.ret (.bool false)
                                      ) (
                                        C.ret (.bool true)
                                      )
                                    )
                                  ) fun jt =>
                                C.call n_laws_eqByteS [(.slice s69.1.a s69.1.n s69.1.c), (.slice s20.1.a s20.1.n s20.1.c)] [.bool] fun r117 =>
                                cond (!r117) (
                                  C.ret (.bool false)
                                ) (
                                  C.ld .agg 32 s69.2.1 fun v120 =>
                                  C.ld .agg 32 s20.2.1 fun v121 =>
                                  C.call n_laws_eqKey [(.agg v120), (.agg v121)] [.bool] fun r122 =>
                                  cond (!r122) (
                                    C.ret (.bool false)
                                  ) (
                                    cond (s69.2.2 != s20.2.2) (
                                      C.ret (.bool false)
                                    ) (
                                      jt []
                                    )
                                  )
                                )
                              ) fun jt =>
                            C.draw <|
                            C.ld .agg 1 (Addr.mk b4 0 none) fun v105 =>
                            C.ld .agg 32 (Addr.mk b5 0 none) fun v107 =>
                            C.all [
                              (C.call n_laws_toStore [(.agg v105)] [.agg] fun r106 =>
                               C.chk [⟨2, 32, (Addr.mk b5 0 none), .agg, v107⟩] <|
                               C.all [
                                 (C.call n_laws_toKey [(.agg v107)] [.agg] fun r108 =>
                                  C.all [
                                    (C.call n_impl_ChunkPartial [(.agg r106), (.agg r108), (.int .i64 x2), (.int .i64 x3)] [.slice, .agg, (.int .i64)] fun r111 =>
                                     C.new ty_impl_Key (.agg (Array.replicate 32 (.int .u8 0))) fun b21 =>
                                     C.st 32 (Addr.mk b21 0 none) (.agg r111.2.1) <|
                                     jt [(.slice r111.1.a r111.1.n r111.1.c), (.pointer (some (Addr.mk b21 0 none))), (.int .i64 r111.2.2)]),
                                    (C.new ty_impl_Key (.agg (Array.replicate 32 (.int .u8 0))) fun b21 =>
                                     C.call n_impl_ChunkPartial [(.agg r106), (.agg r108), (.int .i64 x2), (.int .i64 x3)] [.slice, .agg, (.int .i64)] fun r111 =>
                                     C.st 32 (Addr.mk b21 0 none) (.agg r111.2.1) <|
                                     jt [(.slice r111.1.a r111.1.n r111.1.c), (.pointer (some (Addr.mk b21 0 none))), (.int .i64 r111.2.2)])]),
                                 (C.new ty_impl_Key (.agg (Array.replicate 32 (.int .u8 0))) fun b21 =>
                                  C.chk [⟨2, 32, (Addr.mk b5 0 none), .agg, v107⟩] <|
                                  C.call n_laws_toKey [(.agg v107)] [.agg] fun r108 =>
                                  C.call n_impl_ChunkPartial [(.agg r106), (.agg r108), (.int .i64 x2), (.int .i64 x3)] [.slice, .agg, (.int .i64)] fun r111 =>
                                  C.st 32 (Addr.mk b21 0 none) (.agg r111.2.1) <|
                                  jt [(.slice r111.1.a r111.1.n r111.1.c), (.pointer (some (Addr.mk b21 0 none))), (.int .i64 r111.2.2)])]),
                              (C.new ty_impl_Key (.agg (Array.replicate 32 (.int .u8 0))) fun b21 =>
                               C.chk [⟨2, 32, (Addr.mk b5 0 none), .agg, v107⟩, ⟨0, 1, (Addr.mk b4 0 none), .agg, v105⟩] <|
                               C.call n_laws_toStore [(.agg v105)] [.agg] fun r106 =>
                               C.chk [⟨2, 32, (Addr.mk b5 0 none), .agg, v107⟩] <|
                               C.call n_laws_toKey [(.agg v107)] [.agg] fun r108 =>
                               C.call n_impl_ChunkPartial [(.agg r106), (.agg r108), (.int .i64 x2), (.int .i64 x3)] [.slice, .agg, (.int .i64)] fun r111 =>
                               C.st 32 (Addr.mk b21 0 none) (.agg r111.2.1) <|
                               jt [(.slice r111.1.a r111.1.n r111.1.c), (.pointer (some (Addr.mk b21 0 none))), (.int .i64 r111.2.2)])]
                          )
                        )
                      ) fun jt =>
                    cond (decide (r73 < 0)) (
                      C.ret (.bool false)
                    ) (
                      C.call n_laws_eqByteS [(.slice s34.1.a s34.1.n s34.1.c), (.slice s20.1.a s20.1.n s20.1.c)] [.bool] fun r79 =>
                      cond (!r79) (
                        C.ret (.bool false)
                      ) (
                        C.ld .agg 32 s34.2.1 fun v83 =>
                        C.ld .agg 32 s20.2.1 fun v84 =>
                        C.call n_laws_eqKey [(.agg v83), (.agg v84)] [.bool] fun r85 =>
                        cond (!r85) (
                          C.ret (.bool false)
                        ) (
                          cond (s34.2.2 != s20.2.2) (
                            C.ret (.bool false)
                          ) (
                            jt []
                          )
                        )
                      )
                    )
                  ) fun jt =>
                C.draw <|
                C.ld .agg 1 (Addr.mk b13 0 none) fun v66 =>
                C.ld .agg 1 (Addr.mk b4 0 none) fun v67 =>
                C.call n_laws_toStore [(.agg v67)] [.agg] fun r68 =>
                C.chk [⟨0, 1, (Addr.mk b13 0 none), .agg, v66⟩] <|
                C.call n_laws_eqStore [(.agg v66), (.agg r68)] [.bool] fun r69 =>
                cond (!r69) (
                  C.ret (.bool false)
                ) (
                  jt []
                )
              ) fun jt =>
            C.call n_laws_eqByteS [(.slice s34.1.a s34.1.n s34.1.c), (.slice s20.1.a s20.1.n s20.1.c)] [.bool] fun r53 =>
            cond (!r53) (
              C.ret (.bool false)
            ) (
              C.ld .agg 32 s34.2.1 fun v56 =>
              C.ld .agg 32 s20.2.1 fun v57 =>
              C.call n_laws_eqKey [(.agg v56), (.agg v57)] [.bool] fun r58 =>
              cond (!r58) (
                C.ret (.bool false)
              ) (
                cond (s34.2.2 != s20.2.2) (
                  C.ret (.bool false)
                ) (
                  jt []
                )
              )
            )
          ) fun jt =>
        C.draw <|
        C.ld .agg 1 (Addr.mk b13 0 none) fun v42 =>
        C.ld .agg 32 (Addr.mk b5 0 none) fun v43 =>
        C.all [
          (C.call n_laws_toKey [(.agg v43)] [.agg] fun r44 =>
           C.chk [⟨0, 1, (Addr.mk b13 0 none), .agg, v42⟩] <|
           C.all [
             (C.call n_impl_ChunkPartial [(.agg v42), (.agg r44), (.int .i64 x2), (.int .i64 x3)] [.slice, .agg, (.int .i64)] fun r47 =>
              C.new ty_impl_Key (.agg (Array.replicate 32 (.int .u8 0))) fun b15 =>
              C.st 32 (Addr.mk b15 0 none) (.agg r47.2.1) <|
              jt [(.slice r47.1.a r47.1.n r47.1.c), (.pointer (some (Addr.mk b15 0 none))), (.int .i64 r47.2.2)]),
             (C.new ty_impl_Key (.agg (Array.replicate 32 (.int .u8 0))) fun b15 =>
              C.chk [⟨0, 1, (Addr.mk b13 0 none), .agg, v42⟩] <|
              C.call n_impl_ChunkPartial [(.agg v42), (.agg r44), (.int .i64 x2), (.int .i64 x3)] [.slice, .agg, (.int .i64)] fun r47 =>
              C.st 32 (Addr.mk b15 0 none) (.agg r47.2.1) <|
              jt [(.slice r47.1.a r47.1.n r47.1.c), (.pointer (some (Addr.mk b15 0 none))), (.int .i64 r47.2.2)])]),
          (C.new ty_impl_Key (.agg (Array.replicate 32 (.int .u8 0))) fun b15 =>
           C.chk [⟨1, 32, (Addr.mk b5 0 none), .agg, v43⟩, ⟨0, 1, (Addr.mk b13 0 none), .agg, v42⟩] <|
           C.call n_laws_toKey [(.agg v43)] [.agg] fun r44 =>
           C.chk [⟨0, 1, (Addr.mk b13 0 none), .agg, v42⟩] <|
           C.call n_impl_ChunkPartial [(.agg v42), (.agg r44), (.int .i64 x2), (.int .i64 x3)] [.slice, .agg, (.int .i64)] fun r47 =>
           C.st 32 (Addr.mk b15 0 none) (.agg r47.2.1) <|
           jt [(.slice r47.1.a r47.1.n r47.1.c), (.pointer (some (Addr.mk b15 0 none))), (.int .i64 r47.2.2)])]
      ) fun jt =>
    C.draw <|
    C.ld .agg 1 (Addr.mk b4 0 none) fun v29 =>
    C.ld .agg 32 (Addr.mk b5 0 none) fun v31 =>
    C.all [
      (C.call n_laws_toStore [(.agg v29)] [.agg] fun r30 =>
       C.chk [⟨2, 32, (Addr.mk b5 0 none), .agg, v31⟩] <|
       C.all [
         (C.call n_laws_toKey [(.agg v31)] [.agg] fun r32 =>
          C.all [
            (C.call n_spec_ChunkPartial [(.agg r30), (.agg r32), (.int .i64 x2), (.int .i64 x3)] [.slice, .agg, (.int .i64)] fun r35 =>
             C.new ty_impl_Key (.agg (Array.replicate 32 (.int .u8 0))) fun b11 =>
             C.st 32 (Addr.mk b11 0 none) (.agg r35.2.1) <|
             jt [(.slice r35.1.a r35.1.n r35.1.c), (.pointer (some (Addr.mk b11 0 none))), (.int .i64 r35.2.2)]),
            (C.new ty_impl_Key (.agg (Array.replicate 32 (.int .u8 0))) fun b11 =>
             C.call n_spec_ChunkPartial [(.agg r30), (.agg r32), (.int .i64 x2), (.int .i64 x3)] [.slice, .agg, (.int .i64)] fun r35 =>
             C.st 32 (Addr.mk b11 0 none) (.agg r35.2.1) <|
             jt [(.slice r35.1.a r35.1.n r35.1.c), (.pointer (some (Addr.mk b11 0 none))), (.int .i64 r35.2.2)])]),
         (C.new ty_impl_Key (.agg (Array.replicate 32 (.int .u8 0))) fun b11 =>
          C.chk [⟨2, 32, (Addr.mk b5 0 none), .agg, v31⟩] <|
          C.call n_laws_toKey [(.agg v31)] [.agg] fun r32 =>
          C.call n_spec_ChunkPartial [(.agg r30), (.agg r32), (.int .i64 x2), (.int .i64 x3)] [.slice, .agg, (.int .i64)] fun r35 =>
          C.st 32 (Addr.mk b11 0 none) (.agg r35.2.1) <|
          jt [(.slice r35.1.a r35.1.n r35.1.c), (.pointer (some (Addr.mk b11 0 none))), (.int .i64 r35.2.2)])]),
      (C.new ty_impl_Key (.agg (Array.replicate 32 (.int .u8 0))) fun b11 =>
       C.chk [⟨2, 32, (Addr.mk b5 0 none), .agg, v31⟩, ⟨0, 1, (Addr.mk b4 0 none), .agg, v29⟩] <|
       C.call n_laws_toStore [(.agg v29)] [.agg] fun r30 =>
       C.chk [⟨2, 32, (Addr.mk b5 0 none), .agg, v31⟩] <|
       C.call n_laws_toKey [(.agg v31)] [.agg] fun r32 =>
       C.call n_spec_ChunkPartial [(.agg r30), (.agg r32), (.int .i64 x2), (.int .i64 x3)] [.slice, .agg, (.int .i64)] fun r35 =>
       C.st 32 (Addr.mk b11 0 none) (.agg r35.2.1) <|
       jt [(.slice r35.1.a r35.1.n r35.1.c), (.pointer (some (Addr.mk b11 0 none))), (.int .i64 r35.2.2)])]
  )
theorem laws_FnExactChunkPartial_eq (C : Comb) (x0 : Array Value) (x1 : Array Value) (x2 : Int) (x3 : Int) : fT C Tryz.prog { loop := [], join := [(16, [(10, .slice), (11, .ptr), (12, (.int .i64))]), (22, [(14, .slice), (15, .ptr), (16, (.int .i64))]), (195, []), (210, []), (276, []), (73, [(20, .slice), (21, .ptr), (22, (.int .i64))]), (387, [])], anyOrder := [5, 7, 10, 24], pure := [] } n_laws_FnExactChunkPartial [(.agg x0), (.agg x1), (.int .i64 x2), (.int .i64 x3)] = laws_FnExactChunkPartial C x0 x1 x2 x3 := by kernel_rfl
theorem laws_FnExactChunkPartial_calls {R : Value → World → Prop} {w : World} (x0 : Array Value) (x1 : Array Value) (x2 : Int) (x3 : Int) (h : (laws_FnExactChunkPartial (real Tryz.prog R) x0 x1 x2 x3 : World → Prop) w) :
    Calls Tryz.prog n_laws_FnExactChunkPartial [(.agg x0), (.agg x1), (.int .i64 x2), (.int .i64 x3)].toArray w fun e w' => ∃ v, e = .returned v ∧ R v w' := fT_sound mixed { loop := [], join := [(16, [(10, .slice), (11, .ptr), (12, (.int .i64))]), (22, [(14, .slice), (15, .ptr), (16, (.int .i64))]), (195, []), (210, []), (276, []), (73, [(20, .slice), (21, .ptr), (22, (.int .i64))]), (387, [])], anyOrder := [5, 7, 10, 24], pure := [] } (by rw [laws_FnExactChunkPartial_eq]; exact h)

/-- laws.FnExactListProofFromCopy (4) -/
def laws_FnExactListProofFromCopy (C : Comb) (x0 : Array Value) (x1 : Array Value) (x2 : Int) (x3 : Int) : C.St :=
  C.new ty_laws_Store (.agg x0) fun b4 =>
  C.new ty_arr32_uint8 (.agg x1) fun b5 =>
  C.ld .agg 1 (Addr.mk b4 0 none) fun v23 =>
  C.call n_laws_szStore [(.agg v23), (.int .i64 1048576)] [(.int .i64)] fun r25 =>
  cond (decide (r25 < 0)) (
    C.ret (.bool true)
  ) (
    C.join (TL [.slice, .ptr, (.int .i64)]) (embL [.slice, .ptr, (.int .i64)]) (fun s20 => C.any fun _ =>
        C.ld .agg 1 (Addr.mk b4 0 none) fun v39 =>
        C.call n_laws_toStore [(.agg v39)] [.agg] fun r40 =>
        C.new ty_impl_Store (.agg (#[(.slice none 0 0)])) fun b13 =>
        C.st 1 (Addr.mk b13 0 none) (.agg r40) <|
        C.join (TL [.slice, .ptr, (.int .i64)]) (embL [.slice, .ptr, (.int .i64)]) (fun s34 => C.any fun _ =>
            C.join (TL []) (embL []) (fun s39 => C.any fun _ =>
                C.join (TL []) (embL []) (fun s44 => C.any fun _ =>
                    C.ld .agg 1 (Addr.mk b13 0 none) fun v71 =>
                    C.call n_laws_markStore [(.agg v71), (.int .i64 1)] [(.int .i64)] fun r73 =>
                    C.join (TL []) (embL []) (fun s51 => C.any fun _ =>
                        C.call n_laws_markKeyS [(.slice s34.1.a s34.1.n s34.1.c), (.int .i64 1)] [(.int .i64)] fun r95 =>
                        C.call n_laws_heldKeyS [(.slice s34.1.a s34.1.n s34.1.c), (.int .i64 1)] [(.int .i64)] fun r98 =>
                        cond (decide (r98 < 0)) (
                          C.ret (.bool false)
                        ) (
                          cond (r98 != r95) (
                            C.ret (.bool false)
                          ) (
                            C.join (TL [.slice, .ptr, (.int .i64)]) (embL [.slice, .ptr, (.int .i64)]) (fun s69 => C.any fun _ =>
                                C.join (TL []) (embL []) (fun s74 => C.any fun _ =>
                                    C.call n_laws_heldKeyS [(.slice s34.1.a s34.1.n s34.1.c), (.int .i64 1)] [(.int .i64)] fun r132 =>
                                    cond (decide (r132 < 0)) (
                                      C.ret (.bool false)
                                    ) (
                                      cond (r132 != r95) (
                                        C.ret (.bool false)
                                      ) (
                                        C.ret (.bool true)
                                      )
                                    )
                                  ) fun jt =>
                                C.call n_laws_eqKeyS [(.slice s69.1.a s69.1.n s69.1.c), (.slice s20.1.a s20.1.n s20.1.c)] [.bool] fun r117 =>
                                cond (!r117) (
                                  C.ret (.bool false)
                                ) (
                                  C.ld .agg 32 s69.2.1 fun v120 =>
                                  C.ld .agg 32 s20.2.1 fun v121 =>
                                  C.call n_laws_eqKey [(.agg v120), (.agg v121)] [.bool] fun r122 =>
                                  cond (!r122) (
                                    C.ret (.bool false)
                                  ) (
                                    cond (s69.2.2 != s20.2.2) (
                                      C.ret (.bool false)
                                    ) (
                                      jt []
                                    )
                                  )
                                )
                              ) fun jt =>
                            C.draw <|
                            C.ld .agg 1 (Addr.mk b4 0 none) fun v105 =>
                            C.ld .agg 32 (Addr.mk b5 0 none) fun v107 =>
                            C.all [
                              (C.call n_laws_toStore [(.agg v105)] [.agg] fun r106 =>
                               C.chk [⟨2, 32, (Addr.mk b5 0 none), .agg, v107⟩] <|
                               C.all [
                                 (C.call n_laws_toKey [(.agg v107)] [.agg] fun r108 =>
                                  C.all [
                                    (C.call n_impl_ListProofFromCopy [(.agg r106), (.agg r108), (.int .i64 x2), (.int .i64 x3)] [.slice, .agg, (.int .i64)] fun r111 =>
                                     C.new ty_impl_Key (.agg (Array.replicate 32 (.int .u8 0))) fun b21 =>
                                     C.st 32 (Addr.mk b21 0 none) (.agg r111.2.1) <|
                                     jt [(.slice r111.1.a r111.1.n r111.1.c), (.pointer (some (Addr.mk b21 0 none))), (.int .i64 r111.2.2)]),
                                    (C.new ty_impl_Key (.agg (Array.replicate 32 (.int .u8 0))) fun b21 =>
                                     C.call n_impl_ListProofFromCopy [(.agg r106), (.agg r108), (.int .i64 x2), (.int .i64 x3)] [.slice, .agg, (.int .i64)] fun r111 =>
                                     C.st 32 (Addr.mk b21 0 none) (.agg r111.2.1) <|
                                     jt [(.slice r111.1.a r111.1.n r111.1.c), (.pointer (some (Addr.mk b21 0 none))), (.int .i64 r111.2.2)])]),
                                 (C.new ty_impl_Key (.agg (Array.replicate 32 (.int .u8 0))) fun b21 =>
                                  C.chk [⟨2, 32, (Addr.mk b5 0 none), .agg, v107⟩] <|
                                  C.call n_laws_toKey [(.agg v107)] [.agg] fun r108 =>
                                  C.call n_impl_ListProofFromCopy [(.agg r106), (.agg r108), (.int .i64 x2), (.int .i64 x3)] [.slice, .agg, (.int .i64)] fun r111 =>
                                  C.st 32 (Addr.mk b21 0 none) (.agg r111.2.1) <|
                                  jt [(.slice r111.1.a r111.1.n r111.1.c), (.pointer (some (Addr.mk b21 0 none))), (.int .i64 r111.2.2)])]),
                              (C.new ty_impl_Key (.agg (Array.replicate 32 (.int .u8 0))) fun b21 =>
                               C.chk [⟨2, 32, (Addr.mk b5 0 none), .agg, v107⟩, ⟨0, 1, (Addr.mk b4 0 none), .agg, v105⟩] <|
                               C.call n_laws_toStore [(.agg v105)] [.agg] fun r106 =>
                               C.chk [⟨2, 32, (Addr.mk b5 0 none), .agg, v107⟩] <|
                               C.call n_laws_toKey [(.agg v107)] [.agg] fun r108 =>
                               C.call n_impl_ListProofFromCopy [(.agg r106), (.agg r108), (.int .i64 x2), (.int .i64 x3)] [.slice, .agg, (.int .i64)] fun r111 =>
                               C.st 32 (Addr.mk b21 0 none) (.agg r111.2.1) <|
                               jt [(.slice r111.1.a r111.1.n r111.1.c), (.pointer (some (Addr.mk b21 0 none))), (.int .i64 r111.2.2)])]
                          )
                        )
                      ) fun jt =>
                    cond (decide (r73 < 0)) (
                      C.ret (.bool false)
                    ) (
                      C.call n_laws_eqKeyS [(.slice s34.1.a s34.1.n s34.1.c), (.slice s20.1.a s20.1.n s20.1.c)] [.bool] fun r79 =>
                      cond (!r79) (
                        C.ret (.bool false)
                      ) (
                        C.ld .agg 32 s34.2.1 fun v83 =>
                        C.ld .agg 32 s20.2.1 fun v84 =>
                        C.call n_laws_eqKey [(.agg v83), (.agg v84)] [.bool] fun r85 =>
                        cond (!r85) (
                          C.ret (.bool false)
                        ) (
                          cond (s34.2.2 != s20.2.2) (
                            C.ret (.bool false)
                          ) (
                            jt []
                          )
                        )
                      )
                    )
                  ) fun jt =>
                C.draw <|
                C.ld .agg 1 (Addr.mk b13 0 none) fun v66 =>
                C.ld .agg 1 (Addr.mk b4 0 none) fun v67 =>
                C.call n_laws_toStore [(.agg v67)] [.agg] fun r68 =>
                C.chk [⟨0, 1, (Addr.mk b13 0 none), .agg, v66⟩] <|
                C.call n_laws_eqStore [(.agg v66), (.agg r68)] [.bool] fun r69 =>
                cond (!r69) (
                  C.ret (.bool false)
                ) (
                  jt []
                )
              ) fun jt =>
            C.call n_laws_eqKeyS [(.slice s34.1.a s34.1.n s34.1.c), (.slice s20.1.a s20.1.n s20.1.c)] [.bool] fun r53 =>
            cond (!r53) (
              C.ret (.bool false)
            ) (
              C.ld .agg 32 s34.2.1 fun v56 =>
              C.ld .agg 32 s20.2.1 fun v57 =>
              C.call n_laws_eqKey [(.agg v56), (.agg v57)] [.bool] fun r58 =>
              cond (!r58) (
                C.ret (.bool false)
              ) (
                cond (s34.2.2 != s20.2.2) (
                  C.ret (.bool false)
                ) (
                  jt []
                )
              )
            )
          ) fun jt =>
        C.draw <|
        C.ld .agg 1 (Addr.mk b13 0 none) fun v42 =>
        C.ld .agg 32 (Addr.mk b5 0 none) fun v43 =>
        C.all [
          (C.call n_laws_toKey [(.agg v43)] [.agg] fun r44 =>
           C.chk [⟨0, 1, (Addr.mk b13 0 none), .agg, v42⟩] <|
           C.all [
             (C.call n_impl_ListProofFromCopy [(.agg v42), (.agg r44), (.int .i64 x2), (.int .i64 x3)] [.slice, .agg, (.int .i64)] fun r47 =>
              C.new ty_impl_Key (.agg (Array.replicate 32 (.int .u8 0))) fun b15 =>
              C.st 32 (Addr.mk b15 0 none) (.agg r47.2.1) <|
              jt [(.slice r47.1.a r47.1.n r47.1.c), (.pointer (some (Addr.mk b15 0 none))), (.int .i64 r47.2.2)]),
             (C.new ty_impl_Key (.agg (Array.replicate 32 (.int .u8 0))) fun b15 =>
              C.chk [⟨0, 1, (Addr.mk b13 0 none), .agg, v42⟩] <|
              C.call n_impl_ListProofFromCopy [(.agg v42), (.agg r44), (.int .i64 x2), (.int .i64 x3)] [.slice, .agg, (.int .i64)] fun r47 =>
              C.st 32 (Addr.mk b15 0 none) (.agg r47.2.1) <|
              jt [(.slice r47.1.a r47.1.n r47.1.c), (.pointer (some (Addr.mk b15 0 none))), (.int .i64 r47.2.2)])]),
          (C.new ty_impl_Key (.agg (Array.replicate 32 (.int .u8 0))) fun b15 =>
           C.chk [⟨1, 32, (Addr.mk b5 0 none), .agg, v43⟩, ⟨0, 1, (Addr.mk b13 0 none), .agg, v42⟩] <|
           C.call n_laws_toKey [(.agg v43)] [.agg] fun r44 =>
           C.chk [⟨0, 1, (Addr.mk b13 0 none), .agg, v42⟩] <|
           C.call n_impl_ListProofFromCopy [(.agg v42), (.agg r44), (.int .i64 x2), (.int .i64 x3)] [.slice, .agg, (.int .i64)] fun r47 =>
           C.st 32 (Addr.mk b15 0 none) (.agg r47.2.1) <|
           jt [(.slice r47.1.a r47.1.n r47.1.c), (.pointer (some (Addr.mk b15 0 none))), (.int .i64 r47.2.2)])]
      ) fun jt =>
    C.draw <|
    C.ld .agg 1 (Addr.mk b4 0 none) fun v29 =>
    C.ld .agg 32 (Addr.mk b5 0 none) fun v31 =>
    C.all [
      (C.call n_laws_toStore [(.agg v29)] [.agg] fun r30 =>
       C.chk [⟨2, 32, (Addr.mk b5 0 none), .agg, v31⟩] <|
       C.all [
         (C.call n_laws_toKey [(.agg v31)] [.agg] fun r32 =>
          C.all [
            (C.call n_spec_ListProofFromCopy [(.agg r30), (.agg r32), (.int .i64 x2), (.int .i64 x3)] [.slice, .agg, (.int .i64)] fun r35 =>
             C.new ty_impl_Key (.agg (Array.replicate 32 (.int .u8 0))) fun b11 =>
             C.st 32 (Addr.mk b11 0 none) (.agg r35.2.1) <|
             jt [(.slice r35.1.a r35.1.n r35.1.c), (.pointer (some (Addr.mk b11 0 none))), (.int .i64 r35.2.2)]),
            (C.new ty_impl_Key (.agg (Array.replicate 32 (.int .u8 0))) fun b11 =>
             C.call n_spec_ListProofFromCopy [(.agg r30), (.agg r32), (.int .i64 x2), (.int .i64 x3)] [.slice, .agg, (.int .i64)] fun r35 =>
             C.st 32 (Addr.mk b11 0 none) (.agg r35.2.1) <|
             jt [(.slice r35.1.a r35.1.n r35.1.c), (.pointer (some (Addr.mk b11 0 none))), (.int .i64 r35.2.2)])]),
         (C.new ty_impl_Key (.agg (Array.replicate 32 (.int .u8 0))) fun b11 =>
          C.chk [⟨2, 32, (Addr.mk b5 0 none), .agg, v31⟩] <|
          C.call n_laws_toKey [(.agg v31)] [.agg] fun r32 =>
          C.call n_spec_ListProofFromCopy [(.agg r30), (.agg r32), (.int .i64 x2), (.int .i64 x3)] [.slice, .agg, (.int .i64)] fun r35 =>
          C.st 32 (Addr.mk b11 0 none) (.agg r35.2.1) <|
          jt [(.slice r35.1.a r35.1.n r35.1.c), (.pointer (some (Addr.mk b11 0 none))), (.int .i64 r35.2.2)])]),
      (C.new ty_impl_Key (.agg (Array.replicate 32 (.int .u8 0))) fun b11 =>
       C.chk [⟨2, 32, (Addr.mk b5 0 none), .agg, v31⟩, ⟨0, 1, (Addr.mk b4 0 none), .agg, v29⟩] <|
       C.call n_laws_toStore [(.agg v29)] [.agg] fun r30 =>
       C.chk [⟨2, 32, (Addr.mk b5 0 none), .agg, v31⟩] <|
       C.call n_laws_toKey [(.agg v31)] [.agg] fun r32 =>
       C.call n_spec_ListProofFromCopy [(.agg r30), (.agg r32), (.int .i64 x2), (.int .i64 x3)] [.slice, .agg, (.int .i64)] fun r35 =>
       C.st 32 (Addr.mk b11 0 none) (.agg r35.2.1) <|
       jt [(.slice r35.1.a r35.1.n r35.1.c), (.pointer (some (Addr.mk b11 0 none))), (.int .i64 r35.2.2)])]
  )
theorem laws_FnExactListProofFromCopy_eq (C : Comb) (x0 : Array Value) (x1 : Array Value) (x2 : Int) (x3 : Int) : fT C Tryz.prog { loop := [], join := [(16, [(10, .slice), (11, .ptr), (12, (.int .i64))]), (22, [(14, .slice), (15, .ptr), (16, (.int .i64))]), (195, []), (210, []), (276, []), (73, [(20, .slice), (21, .ptr), (22, (.int .i64))]), (387, [])], anyOrder := [5, 7, 10, 24], pure := [] } n_laws_FnExactListProofFromCopy [(.agg x0), (.agg x1), (.int .i64 x2), (.int .i64 x3)] = laws_FnExactListProofFromCopy C x0 x1 x2 x3 := by kernel_rfl
theorem laws_FnExactListProofFromCopy_calls {R : Value → World → Prop} {w : World} (x0 : Array Value) (x1 : Array Value) (x2 : Int) (x3 : Int) (h : (laws_FnExactListProofFromCopy (real Tryz.prog R) x0 x1 x2 x3 : World → Prop) w) :
    Calls Tryz.prog n_laws_FnExactListProofFromCopy [(.agg x0), (.agg x1), (.int .i64 x2), (.int .i64 x3)].toArray w fun e w' => ∃ v, e = .returned v ∧ R v w' := fT_sound mixed { loop := [], join := [(16, [(10, .slice), (11, .ptr), (12, (.int .i64))]), (22, [(14, .slice), (15, .ptr), (16, (.int .i64))]), (195, []), (210, []), (276, []), (73, [(20, .slice), (21, .ptr), (22, (.int .i64))]), (387, [])], anyOrder := [5, 7, 10, 24], pure := [] } (by rw [laws_FnExactListProofFromCopy_eq]; exact h)

/-- laws.FnExactLoadList (5) -/
def laws_FnExactLoadList (C : Comb) (x0 : Array Value) (x1 : Array Value) (x2 : Int) : C.St :=
  C.new ty_laws_Store (.agg x0) fun b3 =>
  C.new ty_arr32_uint8 (.agg x1) fun b4 =>
  C.ld .agg 1 (Addr.mk b3 0 none) fun v21 =>
  C.call n_laws_szStore [(.agg v21), (.int .i64 1048576)] [(.int .i64)] fun r23 =>
  cond (decide (r23 < 0)) (
    C.ret (.bool true)
  ) (
    C.join (TL [.slice, .ptr, (.int .i64)]) (embL [.slice, .ptr, (.int .i64)]) (fun s20 => C.any fun _ =>
        C.ld .agg 1 (Addr.mk b3 0 none) fun v36 =>
        C.call n_laws_toStore [(.agg v36)] [.agg] fun r37 =>
        C.new ty_impl_Store (.agg (#[(.slice none 0 0)])) fun b11 =>
        C.st 1 (Addr.mk b11 0 none) (.agg r37) <|
        C.join (TL [.slice, .ptr, (.int .i64)]) (embL [.slice, .ptr, (.int .i64)]) (fun s34 => C.any fun _ =>
            C.join (TL []) (embL []) (fun s39 => C.any fun _ =>
                C.join (TL []) (embL []) (fun s44 => C.any fun _ =>
                    C.ld .agg 1 (Addr.mk b11 0 none) fun v67 =>
                    C.call n_laws_markStore [(.agg v67), (.int .i64 1)] [(.int .i64)] fun r69 =>
                    C.join (TL []) (embL []) (fun s51 => C.any fun _ =>
                        C.call n_laws_markByteSS [(.slice s34.1.a s34.1.n s34.1.c), (.int .i64 1)] [(.int .i64)] fun r91 =>
                        C.call n_laws_heldByteSS [(.slice s34.1.a s34.1.n s34.1.c), (.int .i64 1)] [(.int .i64)] fun r94 =>
                        cond (decide (r94 < 0)) (
                          C.ret (.bool false)
                        ) (
                          cond (r94 != r91) (
                            C.ret (.bool false)
                          ) (
                            C.join (TL [.slice, .ptr, (.int .i64)]) (embL [.slice, .ptr, (.int .i64)]) (fun s69 => C.any fun _ =>
                                C.join (TL []) (embL []) (fun s74 => C.any fun _ =>
                                    C.call n_laws_heldByteSS [(.slice s34.1.a s34.1.n s34.1.c), (.int .i64 1)] [(.int .i64)] fun r127 =>
                                    cond (decide (r127 < 0)) (
                                      C.ret (.bool false)
                                    ) (
                                      cond (r127 != r91) (
                                        C.ret (.bool false)
                                      ) (
                                        C.ret (.bool true)
                                      )
                                    )
                                  ) fun jt =>
                                C.call n_laws_eqByteSS [(.slice s69.1.a s69.1.n s69.1.c), (.slice s20.1.a s20.1.n s20.1.c)] [.bool] fun r112 =>
                                cond (!r112) (
                                  C.ret (.bool false)
                                ) (
                                  C.ld .agg 32 s69.2.1 fun v115 =>
                                  C.ld .agg 32 s20.2.1 fun v116 =>
                                  C.call n_laws_eqKey [(.agg v115), (.agg v116)] [.bool] fun r117 =>
                                  cond (!r117) (
                                    C.ret (.bool false)
                                  ) (
                                    cond (s69.2.2 != s20.2.2) (
                                      C.ret (.bool false)
                                    ) (
                                      jt []
                                    )
                                  )
                                )
                              ) fun jt =>
                            C.draw <|
                            C.ld .agg 1 (Addr.mk b3 0 none) fun v101 =>
                            C.ld .agg 32 (Addr.mk b4 0 none) fun v103 =>
                            C.all [
                              (C.call n_laws_toStore [(.agg v101)] [.agg] fun r102 =>
                               C.chk [⟨2, 32, (Addr.mk b4 0 none), .agg, v103⟩] <|
                               C.all [
                                 (C.call n_laws_toKey [(.agg v103)] [.agg] fun r104 =>
                                  C.all [
                                    (C.call n_impl_LoadList [(.agg r102), (.agg r104), (.int .i64 x2)] [.slice, .agg, (.int .i64)] fun r106 =>
                                     C.new ty_impl_Key (.agg (Array.replicate 32 (.int .u8 0))) fun b19 =>
                                     C.st 32 (Addr.mk b19 0 none) (.agg r106.2.1) <|
                                     jt [(.slice r106.1.a r106.1.n r106.1.c), (.pointer (some (Addr.mk b19 0 none))), (.int .i64 r106.2.2)]),
                                    (C.new ty_impl_Key (.agg (Array.replicate 32 (.int .u8 0))) fun b19 =>
                                     C.call n_impl_LoadList [(.agg r102), (.agg r104), (.int .i64 x2)] [.slice, .agg, (.int .i64)] fun r106 =>
                                     C.st 32 (Addr.mk b19 0 none) (.agg r106.2.1) <|
                                     jt [(.slice r106.1.a r106.1.n r106.1.c), (.pointer (some (Addr.mk b19 0 none))), (.int .i64 r106.2.2)])]),
                                 (C.new ty_impl_Key (.agg (Array.replicate 32 (.int .u8 0))) fun b19 =>
                                  C.chk [⟨2, 32, (Addr.mk b4 0 none), .agg, v103⟩] <|
                                  C.call n_laws_toKey [(.agg v103)] [.agg] fun r104 =>
                                  C.call n_impl_LoadList [(.agg r102), (.agg r104), (.int .i64 x2)] [.slice, .agg, (.int .i64)] fun r106 =>
                                  C.st 32 (Addr.mk b19 0 none) (.agg r106.2.1) <|
                                  jt [(.slice r106.1.a r106.1.n r106.1.c), (.pointer (some (Addr.mk b19 0 none))), (.int .i64 r106.2.2)])]),
                              (C.new ty_impl_Key (.agg (Array.replicate 32 (.int .u8 0))) fun b19 =>
                               C.chk [⟨2, 32, (Addr.mk b4 0 none), .agg, v103⟩, ⟨0, 1, (Addr.mk b3 0 none), .agg, v101⟩] <|
                               C.call n_laws_toStore [(.agg v101)] [.agg] fun r102 =>
                               C.chk [⟨2, 32, (Addr.mk b4 0 none), .agg, v103⟩] <|
                               C.call n_laws_toKey [(.agg v103)] [.agg] fun r104 =>
                               C.call n_impl_LoadList [(.agg r102), (.agg r104), (.int .i64 x2)] [.slice, .agg, (.int .i64)] fun r106 =>
                               C.st 32 (Addr.mk b19 0 none) (.agg r106.2.1) <|
                               jt [(.slice r106.1.a r106.1.n r106.1.c), (.pointer (some (Addr.mk b19 0 none))), (.int .i64 r106.2.2)])]
                          )
                        )
                      ) fun jt =>
                    cond (decide (r69 < 0)) (
                      C.ret (.bool false)
                    ) (
                      C.call n_laws_eqByteSS [(.slice s34.1.a s34.1.n s34.1.c), (.slice s20.1.a s20.1.n s20.1.c)] [.bool] fun r75 =>
                      cond (!r75) (
                        C.ret (.bool false)
                      ) (
                        C.ld .agg 32 s34.2.1 fun v79 =>
                        C.ld .agg 32 s20.2.1 fun v80 =>
                        C.call n_laws_eqKey [(.agg v79), (.agg v80)] [.bool] fun r81 =>
                        cond (!r81) (
                          C.ret (.bool false)
                        ) (
                          cond (s34.2.2 != s20.2.2) (
                            C.ret (.bool false)
                          ) (
                            jt []
                          )
                        )
                      )
                    )
                  ) fun jt =>
                C.draw <|
                C.ld .agg 1 (Addr.mk b11 0 none) fun v62 =>
                C.ld .agg 1 (Addr.mk b3 0 none) fun v63 =>
                C.call n_laws_toStore [(.agg v63)] [.agg] fun r64 =>
                C.chk [⟨0, 1, (Addr.mk b11 0 none), .agg, v62⟩] <|
                C.call n_laws_eqStore [(.agg v62), (.agg r64)] [.bool] fun r65 =>
                cond (!r65) (
                  C.ret (.bool false)
                ) (
                  jt []
                )
              ) fun jt =>
            C.call n_laws_eqByteSS [(.slice s34.1.a s34.1.n s34.1.c), (.slice s20.1.a s20.1.n s20.1.c)] [.bool] fun r49 =>
            cond (!r49) (
              C.ret (.bool false)
            ) (
              C.ld .agg 32 s34.2.1 fun v52 =>
              C.ld .agg 32 s20.2.1 fun v53 =>
              C.call n_laws_eqKey [(.agg v52), (.agg v53)] [.bool] fun r54 =>
              cond (!r54) (
                C.ret (.bool false)
              ) (
                cond (s34.2.2 != s20.2.2) (
                  C.ret (.bool false)
                ) (
                  jt []
                )
              )
            )
          ) fun jt =>
        C.draw <|
        C.ld .agg 1 (Addr.mk b11 0 none) fun v39 =>
        C.ld .agg 32 (Addr.mk b4 0 none) fun v40 =>
        C.all [
          (C.call n_laws_toKey [(.agg v40)] [.agg] fun r41 =>
           C.chk [⟨0, 1, (Addr.mk b11 0 none), .agg, v39⟩] <|
           C.all [
             (C.call n_impl_LoadList [(.agg v39), (.agg r41), (.int .i64 x2)] [.slice, .agg, (.int .i64)] fun r43 =>
              C.new ty_impl_Key (.agg (Array.replicate 32 (.int .u8 0))) fun b13 =>
              C.st 32 (Addr.mk b13 0 none) (.agg r43.2.1) <|
              jt [(.slice r43.1.a r43.1.n r43.1.c), (.pointer (some (Addr.mk b13 0 none))), (.int .i64 r43.2.2)]),
             (C.new ty_impl_Key (.agg (Array.replicate 32 (.int .u8 0))) fun b13 =>
              C.chk [⟨0, 1, (Addr.mk b11 0 none), .agg, v39⟩] <|
              C.call n_impl_LoadList [(.agg v39), (.agg r41), (.int .i64 x2)] [.slice, .agg, (.int .i64)] fun r43 =>
              C.st 32 (Addr.mk b13 0 none) (.agg r43.2.1) <|
              jt [(.slice r43.1.a r43.1.n r43.1.c), (.pointer (some (Addr.mk b13 0 none))), (.int .i64 r43.2.2)])]),
          (C.new ty_impl_Key (.agg (Array.replicate 32 (.int .u8 0))) fun b13 =>
           C.chk [⟨1, 32, (Addr.mk b4 0 none), .agg, v40⟩, ⟨0, 1, (Addr.mk b11 0 none), .agg, v39⟩] <|
           C.call n_laws_toKey [(.agg v40)] [.agg] fun r41 =>
           C.chk [⟨0, 1, (Addr.mk b11 0 none), .agg, v39⟩] <|
           C.call n_impl_LoadList [(.agg v39), (.agg r41), (.int .i64 x2)] [.slice, .agg, (.int .i64)] fun r43 =>
           C.st 32 (Addr.mk b13 0 none) (.agg r43.2.1) <|
           jt [(.slice r43.1.a r43.1.n r43.1.c), (.pointer (some (Addr.mk b13 0 none))), (.int .i64 r43.2.2)])]
      ) fun jt =>
    C.draw <|
    C.ld .agg 1 (Addr.mk b3 0 none) fun v27 =>
    C.ld .agg 32 (Addr.mk b4 0 none) fun v29 =>
    C.all [
      (C.call n_laws_toStore [(.agg v27)] [.agg] fun r28 =>
       C.chk [⟨2, 32, (Addr.mk b4 0 none), .agg, v29⟩] <|
       C.all [
         (C.call n_laws_toKey [(.agg v29)] [.agg] fun r30 =>
          C.all [
            (C.call n_spec_LoadList [(.agg r28), (.agg r30), (.int .i64 x2)] [.slice, .agg, (.int .i64)] fun r32 =>
             C.new ty_impl_Key (.agg (Array.replicate 32 (.int .u8 0))) fun b9 =>
             C.st 32 (Addr.mk b9 0 none) (.agg r32.2.1) <|
             jt [(.slice r32.1.a r32.1.n r32.1.c), (.pointer (some (Addr.mk b9 0 none))), (.int .i64 r32.2.2)]),
            (C.new ty_impl_Key (.agg (Array.replicate 32 (.int .u8 0))) fun b9 =>
             C.call n_spec_LoadList [(.agg r28), (.agg r30), (.int .i64 x2)] [.slice, .agg, (.int .i64)] fun r32 =>
             C.st 32 (Addr.mk b9 0 none) (.agg r32.2.1) <|
             jt [(.slice r32.1.a r32.1.n r32.1.c), (.pointer (some (Addr.mk b9 0 none))), (.int .i64 r32.2.2)])]),
         (C.new ty_impl_Key (.agg (Array.replicate 32 (.int .u8 0))) fun b9 =>
          C.chk [⟨2, 32, (Addr.mk b4 0 none), .agg, v29⟩] <|
          C.call n_laws_toKey [(.agg v29)] [.agg] fun r30 =>
          C.call n_spec_LoadList [(.agg r28), (.agg r30), (.int .i64 x2)] [.slice, .agg, (.int .i64)] fun r32 =>
          C.st 32 (Addr.mk b9 0 none) (.agg r32.2.1) <|
          jt [(.slice r32.1.a r32.1.n r32.1.c), (.pointer (some (Addr.mk b9 0 none))), (.int .i64 r32.2.2)])]),
      (C.new ty_impl_Key (.agg (Array.replicate 32 (.int .u8 0))) fun b9 =>
       C.chk [⟨2, 32, (Addr.mk b4 0 none), .agg, v29⟩, ⟨0, 1, (Addr.mk b3 0 none), .agg, v27⟩] <|
       C.call n_laws_toStore [(.agg v27)] [.agg] fun r28 =>
       C.chk [⟨2, 32, (Addr.mk b4 0 none), .agg, v29⟩] <|
       C.call n_laws_toKey [(.agg v29)] [.agg] fun r30 =>
       C.call n_spec_LoadList [(.agg r28), (.agg r30), (.int .i64 x2)] [.slice, .agg, (.int .i64)] fun r32 =>
       C.st 32 (Addr.mk b9 0 none) (.agg r32.2.1) <|
       jt [(.slice r32.1.a r32.1.n r32.1.c), (.pointer (some (Addr.mk b9 0 none))), (.int .i64 r32.2.2)])]
  )
theorem laws_FnExactLoadList_eq (C : Comb) (x0 : Array Value) (x1 : Array Value) (x2 : Int) : fT C Tryz.prog { loop := [], join := [(16, [(8, .slice), (9, .ptr), (10, (.int .i64))]), (22, [(12, .slice), (13, .ptr), (14, (.int .i64))]), (183, []), (198, []), (264, []), (73, [(18, .slice), (19, .ptr), (20, (.int .i64))]), (372, [])], anyOrder := [5, 7, 10, 24], pure := [] } n_laws_FnExactLoadList [(.agg x0), (.agg x1), (.int .i64 x2)] = laws_FnExactLoadList C x0 x1 x2 := by kernel_rfl
theorem laws_FnExactLoadList_calls {R : Value → World → Prop} {w : World} (x0 : Array Value) (x1 : Array Value) (x2 : Int) (h : (laws_FnExactLoadList (real Tryz.prog R) x0 x1 x2 : World → Prop) w) :
    Calls Tryz.prog n_laws_FnExactLoadList [(.agg x0), (.agg x1), (.int .i64 x2)].toArray w fun e w' => ∃ v, e = .returned v ∧ R v w' := fT_sound mixed { loop := [], join := [(16, [(8, .slice), (9, .ptr), (10, (.int .i64))]), (22, [(12, .slice), (13, .ptr), (14, (.int .i64))]), (183, []), (198, []), (264, []), (73, [(18, .slice), (19, .ptr), (20, (.int .i64))]), (372, [])], anyOrder := [5, 7, 10, 24], pure := [] } (by rw [laws_FnExactLoadList_eq]; exact h)

/-- laws.FnExactStoreList (6) -/
def laws_FnExactStoreList (C : Comb) (x0 : Array Value) (x1 : Sl) : C.St :=
  C.new ty_laws_Store (.agg x0) fun b2 =>
  C.ld .agg 1 (Addr.mk b2 0 none) fun v20 =>
  C.call n_laws_szStore [(.agg v20), (.int .i64 1048576)] [(.int .i64)] fun r22 =>
  cond (decide (r22 < 0)) (
    C.ret (.bool true)
  ) (
    C.call n_laws_szByteSS [(.slice x1.a x1.n x1.c), (.int .i64 r22)] [(.int .i64)] fun r27 =>
    cond (decide (r27 < 0)) (
      C.ret (.bool true)
    ) (
      C.ld .agg 1 (Addr.mk b2 0 none) fun v31 =>
      C.call n_laws_toStore [(.agg v31)] [.agg] fun r32 =>
      C.call n_laws_toByteSS [(.slice x1.a x1.n x1.c)] [.slice] fun r34 =>
      C.call n_spec_StoreList [(.agg r32), (.slice r34.a r34.n r34.c)] [.agg, .agg, (.int .i64)] fun r35 =>
      C.new ty_impl_Store (.agg (#[(.slice none 0 0)])) fun b6 =>
      C.new ty_impl_Key (.agg (Array.replicate 32 (.int .u8 0))) fun b7 =>
      C.st 1 (Addr.mk b6 0 none) (.agg r35.1) <|
      C.st 32 (Addr.mk b7 0 none) (.agg r35.2.1) <|
      C.ld .agg 1 (Addr.mk b2 0 none) fun v39 =>
      C.call n_laws_toStore [(.agg v39)] [.agg] fun r40 =>
      C.new ty_impl_Store (.agg (#[(.slice none 0 0)])) fun b9 =>
      C.st 1 (Addr.mk b9 0 none) (.agg r40) <|
      C.call n_laws_toByteSS [(.slice x1.a x1.n x1.c)] [.slice] fun r42 =>
      C.ld .agg 1 (Addr.mk b9 0 none) fun v44 =>
      C.call n_impl_StoreList [(.agg v44), (.slice r42.a r42.n r42.c)] [.agg, .agg, (.int .i64)] fun r46 =>
      C.new ty_impl_Store (.agg (#[(.slice none 0 0)])) fun b11 =>
      C.new ty_impl_Key (.agg (Array.replicate 32 (.int .u8 0))) fun b12 =>
      C.st 1 (Addr.mk b11 0 none) (.agg r46.1) <|
      C.st 32 (Addr.mk b12 0 none) (.agg r46.2.1) <|
      C.join (TL []) (embL []) (fun s25 => C.any fun _ =>
          C.join (TL []) (embL []) (fun s30 => C.any fun _ =>
              C.call n_laws_toByteSS [(.slice x1.a x1.n x1.c)] [.slice] fun r72 =>
              C.call n_laws_eqByteSS [(.slice r42.a r42.n r42.c), (.slice r72.a r72.n r72.c)] [.bool] fun r73 =>
              cond (!r73) (
                C.ret (.bool false)
              ) (
                C.ld .agg 1 (Addr.mk b9 0 none) fun v75 =>
                C.call n_laws_markStore [(.agg v75), (.int .i64 1)] [(.int .i64)] fun r77 =>
                C.call n_laws_markByteSS [(.slice r42.a r42.n r42.c), (.int .i64 r77)] [(.int .i64)] fun r80 =>
                C.join (TL []) (embL []) (fun s42 => C.any fun _ =>
                    C.ld .agg 1 (Addr.mk b11 0 none) fun v100 =>
                    C.call n_laws_markStore [(.agg v100), (.int .i64 1)] [(.int .i64)] fun r102 =>
                    C.ld .agg 1 (Addr.mk b11 0 none) fun v103 =>
                    C.call n_laws_heldStore [(.agg v103), (.int .i64 1)] [(.int .i64)] fun r105 =>
                    cond (decide (r105 < 0)) (
                      C.ret (.bool false)
                    ) (
                      cond (r105 != r102) (
                        C.ret (.bool false)
                      ) (
                        C.ld .agg 1 (Addr.mk b2 0 none) fun v112 =>
                        C.call n_laws_toStore [(.agg v112)] [.agg] fun r113 =>
                        C.call n_laws_toByteSS [(.slice x1.a x1.n x1.c)] [.slice] fun r115 =>
                        C.call n_impl_StoreList [(.agg r113), (.slice r115.a r115.n r115.c)] [.agg, .agg, (.int .i64)] fun r116 =>
                        C.new ty_impl_Store (.agg (#[(.slice none 0 0)])) fun b17 =>
                        C.new ty_impl_Key (.agg (Array.replicate 32 (.int .u8 0))) fun b18 =>
                        C.st 1 (Addr.mk b17 0 none) (.agg r116.1) <|
                        C.st 32 (Addr.mk b18 0 none) (.agg r116.2.1) <|
                        C.join (TL []) (embL []) (fun s59 => C.any fun _ =>
                            C.ld .agg 1 (Addr.mk b11 0 none) fun v135 =>
                            C.call n_laws_heldStore [(.agg v135), (.int .i64 1)] [(.int .i64)] fun r137 =>
                            cond (decide (r137 < 0)) (
                              C.ret (.bool false)
                            ) (
                              cond (r137 != r102) (
                                C.ret (.bool false)
                              ) (
                                C.ret (.bool true)
                              )
                            )
                          ) fun jt =>
                        C.ld .agg 1 (Addr.mk b17 0 none) fun v120 =>
                        C.ld .agg 1 (Addr.mk b6 0 none) fun v121 =>
                        C.call n_laws_eqStore [(.agg v120), (.agg v121)] [.bool] fun r122 =>
                        cond (!r122) (
                          C.ret (.bool false)
                        ) (
                          C.ld .agg 32 (Addr.mk b18 0 none) fun v125 =>
                          C.ld .agg 32 (Addr.mk b7 0 none) fun v126 =>
                          C.call n_laws_eqKey [(.agg v125), (.agg v126)] [.bool] fun r127 =>
                          cond (!r127) (
                            C.ret (.bool false)
                          ) (
                            cond (r116.2.2 != r35.2.2) (
                              C.ret (.bool false)
                            ) (
                              jt []
                            )
                          )
                        )
                      )
                    )
                  ) fun jt =>
                cond (decide (r80 < 0)) (
                  C.ret (.bool false)
                ) (
                  C.ld .agg 1 (Addr.mk b11 0 none) fun v84 =>
                  C.ld .agg 1 (Addr.mk b6 0 none) fun v85 =>
                  C.call n_laws_eqStore [(.agg v84), (.agg v85)] [.bool] fun r86 =>
                  cond (!r86) (
                    C.ret (.bool false)
                  ) (
                    C.ld .agg 32 (Addr.mk b12 0 none) fun v90 =>
                    C.ld .agg 32 (Addr.mk b7 0 none) fun v91 =>
                    C.call n_laws_eqKey [(.agg v90), (.agg v91)] [.bool] fun r92 =>
                    cond (!r92) (
                      C.ret (.bool false)
                    ) (
                      cond (r46.2.2 != r35.2.2) (
                        C.ret (.bool false)
                      ) (
                        jt []
                      )
                    )
                  )
                )
              )
            ) fun jt =>
          C.draw <|
          C.ld .agg 1 (Addr.mk b9 0 none) fun v65 =>
          C.ld .agg 1 (Addr.mk b2 0 none) fun v66 =>
          C.call n_laws_toStore [(.agg v66)] [.agg] fun r67 =>
          C.chk [⟨0, 1, (Addr.mk b9 0 none), .agg, v65⟩] <|
          C.call n_laws_eqStore [(.agg v65), (.agg r67)] [.bool] fun r68 =>
          cond (!r68) (
            C.ret (.bool false)
          ) (
            jt []
          )
        ) fun jt =>
      C.ld .agg 1 (Addr.mk b11 0 none) fun v50 =>
      C.ld .agg 1 (Addr.mk b6 0 none) fun v51 =>
      C.call n_laws_eqStore [(.agg v50), (.agg v51)] [.bool] fun r52 =>
      cond (!r52) (
        C.ret (.bool false)
      ) (
        C.ld .agg 32 (Addr.mk b12 0 none) fun v55 =>
        C.ld .agg 32 (Addr.mk b7 0 none) fun v56 =>
        C.call n_laws_eqKey [(.agg v55), (.agg v56)] [.bool] fun r57 =>
        cond (!r57) (
          C.ret (.bool false)
        ) (
          cond (r46.2.2 != r35.2.2) (
            C.ret (.bool false)
          ) (
            jt []
          )
        )
      )
    )
  )
theorem laws_FnExactStoreList_eq (C : Comb) (x0 : Array Value) (x1 : Sl) : fT C Tryz.prog { loop := [], join := [(192, []), (207, []), (297, []), (402, [])], anyOrder := [14], pure := [] } n_laws_FnExactStoreList [(.agg x0), (.slice x1.a x1.n x1.c)] = laws_FnExactStoreList C x0 x1 := by kernel_rfl
theorem laws_FnExactStoreList_calls {R : Value → World → Prop} {w : World} (x0 : Array Value) (x1 : Sl) (h : (laws_FnExactStoreList (real Tryz.prog R) x0 x1 : World → Prop) w) :
    Calls Tryz.prog n_laws_FnExactStoreList [(.agg x0), (.slice x1.a x1.n x1.c)].toArray w fun e w' => ∃ v, e = .returned v ∧ R v w' := fT_sound mixed { loop := [], join := [(192, []), (207, []), (297, []), (402, [])], anyOrder := [14], pure := [] } (by rw [laws_FnExactStoreList_eq]; exact h)

/-- laws.FnExactStoreMap (7) -/
def laws_FnExactStoreMap (C : Comb) (x0 : Array Value) (x1 : Sl) : C.St :=
  C.new ty_laws_Store (.agg x0) fun b2 =>
  C.ld .agg 1 (Addr.mk b2 0 none) fun v20 =>
  C.call n_laws_szStore [(.agg v20), (.int .i64 1048576)] [(.int .i64)] fun r22 =>
  cond (decide (r22 < 0)) (
    C.ret (.bool true)
  ) (
    C.call n_laws_szEntryS [(.slice x1.a x1.n x1.c), (.int .i64 r22)] [(.int .i64)] fun r27 =>
    cond (decide (r27 < 0)) (
      C.ret (.bool true)
    ) (
      C.ld .agg 1 (Addr.mk b2 0 none) fun v31 =>
      C.call n_laws_toStore [(.agg v31)] [.agg] fun r32 =>
      C.call n_laws_toEntryS [(.slice x1.a x1.n x1.c)] [.slice] fun r34 =>
      C.call n_spec_StoreMap [(.agg r32), (.slice r34.a r34.n r34.c)] [.agg, .agg, (.int .i64)] fun r35 =>
      C.new ty_impl_Store (.agg (#[(.slice none 0 0)])) fun b6 =>
      C.new ty_impl_Key (.agg (Array.replicate 32 (.int .u8 0))) fun b7 =>
      C.st 1 (Addr.mk b6 0 none) (.agg r35.1) <|
      C.st 32 (Addr.mk b7 0 none) (.agg r35.2.1) <|
      C.ld .agg 1 (Addr.mk b2 0 none) fun v39 =>
      C.call n_laws_toStore [(.agg v39)] [.agg] fun r40 =>
      C.new ty_impl_Store (.agg (#[(.slice none 0 0)])) fun b9 =>
      C.st 1 (Addr.mk b9 0 none) (.agg r40) <|
      C.call n_laws_toEntryS [(.slice x1.a x1.n x1.c)] [.slice] fun r42 =>
      C.ld .agg 1 (Addr.mk b9 0 none) fun v44 =>
      C.call n_impl_StoreMap [(.agg v44), (.slice r42.a r42.n r42.c)] [.agg, .agg, (.int .i64)] fun r46 =>
      C.new ty_impl_Store (.agg (#[(.slice none 0 0)])) fun b11 =>
      C.new ty_impl_Key (.agg (Array.replicate 32 (.int .u8 0))) fun b12 =>
      C.st 1 (Addr.mk b11 0 none) (.agg r46.1) <|
      C.st 32 (Addr.mk b12 0 none) (.agg r46.2.1) <|
      C.join (TL []) (embL []) (fun s25 => C.any fun _ =>
          C.join (TL []) (embL []) (fun s30 => C.any fun _ =>
              C.call n_laws_toEntryS [(.slice x1.a x1.n x1.c)] [.slice] fun r72 =>
              C.call n_laws_eqEntryS [(.slice r42.a r42.n r42.c), (.slice r72.a r72.n r72.c)] [.bool] fun r73 =>
              cond (!r73) (
                C.ret (.bool false)
              ) (
                C.ld .agg 1 (Addr.mk b9 0 none) fun v75 =>
                C.call n_laws_markStore [(.agg v75), (.int .i64 1)] [(.int .i64)] fun r77 =>
                C.call n_laws_markEntryS [(.slice r42.a r42.n r42.c), (.int .i64 r77)] [(.int .i64)] fun r80 =>
                C.join (TL []) (embL []) (fun s42 => C.any fun _ =>
                    C.ld .agg 1 (Addr.mk b11 0 none) fun v100 =>
                    C.call n_laws_markStore [(.agg v100), (.int .i64 1)] [(.int .i64)] fun r102 =>
                    C.ld .agg 1 (Addr.mk b11 0 none) fun v103 =>
                    C.call n_laws_heldStore [(.agg v103), (.int .i64 1)] [(.int .i64)] fun r105 =>
                    cond (decide (r105 < 0)) (
                      C.ret (.bool false)
                    ) (
                      cond (r105 != r102) (
                        C.ret (.bool false)
                      ) (
                        C.ld .agg 1 (Addr.mk b2 0 none) fun v112 =>
                        C.call n_laws_toStore [(.agg v112)] [.agg] fun r113 =>
                        C.call n_laws_toEntryS [(.slice x1.a x1.n x1.c)] [.slice] fun r115 =>
                        C.call n_impl_StoreMap [(.agg r113), (.slice r115.a r115.n r115.c)] [.agg, .agg, (.int .i64)] fun r116 =>
                        C.new ty_impl_Store (.agg (#[(.slice none 0 0)])) fun b17 =>
                        C.new ty_impl_Key (.agg (Array.replicate 32 (.int .u8 0))) fun b18 =>
                        C.st 1 (Addr.mk b17 0 none) (.agg r116.1) <|
                        C.st 32 (Addr.mk b18 0 none) (.agg r116.2.1) <|
                        C.join (TL []) (embL []) (fun s59 => C.any fun _ =>
                            C.ld .agg 1 (Addr.mk b11 0 none) fun v135 =>
                            C.call n_laws_heldStore [(.agg v135), (.int .i64 1)] [(.int .i64)] fun r137 =>
                            cond (decide (r137 < 0)) (
                              C.ret (.bool false)
                            ) (
                              cond (r137 != r102) (
                                C.ret (.bool false)
                              ) (
                                C.ret (.bool true)
                              )
                            )
                          ) fun jt =>
                        C.ld .agg 1 (Addr.mk b17 0 none) fun v120 =>
                        C.ld .agg 1 (Addr.mk b6 0 none) fun v121 =>
                        C.call n_laws_eqStore [(.agg v120), (.agg v121)] [.bool] fun r122 =>
                        cond (!r122) (
                          C.ret (.bool false)
                        ) (
                          C.ld .agg 32 (Addr.mk b18 0 none) fun v125 =>
                          C.ld .agg 32 (Addr.mk b7 0 none) fun v126 =>
                          C.call n_laws_eqKey [(.agg v125), (.agg v126)] [.bool] fun r127 =>
                          cond (!r127) (
                            C.ret (.bool false)
                          ) (
                            cond (r116.2.2 != r35.2.2) (
                              C.ret (.bool false)
                            ) (
                              jt []
                            )
                          )
                        )
                      )
                    )
                  ) fun jt =>
                cond (decide (r80 < 0)) (
                  C.ret (.bool false)
                ) (
                  C.ld .agg 1 (Addr.mk b11 0 none) fun v84 =>
                  C.ld .agg 1 (Addr.mk b6 0 none) fun v85 =>
                  C.call n_laws_eqStore [(.agg v84), (.agg v85)] [.bool] fun r86 =>
                  cond (!r86) (
                    C.ret (.bool false)
                  ) (
                    C.ld .agg 32 (Addr.mk b12 0 none) fun v90 =>
                    C.ld .agg 32 (Addr.mk b7 0 none) fun v91 =>
                    C.call n_laws_eqKey [(.agg v90), (.agg v91)] [.bool] fun r92 =>
                    cond (!r92) (
                      C.ret (.bool false)
                    ) (
                      cond (r46.2.2 != r35.2.2) (
                        C.ret (.bool false)
                      ) (
                        jt []
                      )
                    )
                  )
                )
              )
            ) fun jt =>
          C.draw <|
          C.ld .agg 1 (Addr.mk b9 0 none) fun v65 =>
          C.ld .agg 1 (Addr.mk b2 0 none) fun v66 =>
          C.call n_laws_toStore [(.agg v66)] [.agg] fun r67 =>
          C.chk [⟨0, 1, (Addr.mk b9 0 none), .agg, v65⟩] <|
          C.call n_laws_eqStore [(.agg v65), (.agg r67)] [.bool] fun r68 =>
          cond (!r68) (
            C.ret (.bool false)
          ) (
            jt []
          )
        ) fun jt =>
      C.ld .agg 1 (Addr.mk b11 0 none) fun v50 =>
      C.ld .agg 1 (Addr.mk b6 0 none) fun v51 =>
      C.call n_laws_eqStore [(.agg v50), (.agg v51)] [.bool] fun r52 =>
      cond (!r52) (
        C.ret (.bool false)
      ) (
        C.ld .agg 32 (Addr.mk b12 0 none) fun v55 =>
        C.ld .agg 32 (Addr.mk b7 0 none) fun v56 =>
        C.call n_laws_eqKey [(.agg v55), (.agg v56)] [.bool] fun r57 =>
        cond (!r57) (
          C.ret (.bool false)
        ) (
          cond (r46.2.2 != r35.2.2) (
            C.ret (.bool false)
          ) (
            jt []
          )
        )
      )
    )
  )
theorem laws_FnExactStoreMap_eq (C : Comb) (x0 : Array Value) (x1 : Sl) : fT C Tryz.prog { loop := [], join := [(192, []), (207, []), (297, []), (402, [])], anyOrder := [14], pure := [] } n_laws_FnExactStoreMap [(.agg x0), (.slice x1.a x1.n x1.c)] = laws_FnExactStoreMap C x0 x1 := by kernel_rfl
theorem laws_FnExactStoreMap_calls {R : Value → World → Prop} {w : World} (x0 : Array Value) (x1 : Sl) (h : (laws_FnExactStoreMap (real Tryz.prog R) x0 x1 : World → Prop) w) :
    Calls Tryz.prog n_laws_FnExactStoreMap [(.agg x0), (.slice x1.a x1.n x1.c)].toArray w fun e w' => ∃ v, e = .returned v ∧ R v w' := fT_sound mixed { loop := [], join := [(192, []), (207, []), (297, []), (402, [])], anyOrder := [14], pure := [] } (by rw [laws_FnExactStoreMap_eq]; exact h)

/-- laws.FnExactLoadMap (8) -/
def laws_FnExactLoadMap (C : Comb) (x0 : Array Value) (x1 : Array Value) : C.St :=
  C.new ty_laws_Store (.agg x0) fun b2 =>
  C.new ty_arr32_uint8 (.agg x1) fun b3 =>
  C.ld .agg 1 (Addr.mk b2 0 none) fun v19 =>
  C.call n_laws_szStore [(.agg v19), (.int .i64 1048576)] [(.int .i64)] fun r21 =>
  cond (decide (r21 < 0)) (
    C.ret (.bool true)
  ) (
    C.join (TL [.slice, .ptr, (.int .i64)]) (embL [.slice, .ptr, (.int .i64)]) (fun s20 => C.any fun _ =>
        C.ld .agg 1 (Addr.mk b2 0 none) fun v33 =>
        C.call n_laws_toStore [(.agg v33)] [.agg] fun r34 =>
        C.new ty_impl_Store (.agg (#[(.slice none 0 0)])) fun b9 =>
        C.st 1 (Addr.mk b9 0 none) (.agg r34) <|
        C.join (TL [.slice, .ptr, (.int .i64)]) (embL [.slice, .ptr, (.int .i64)]) (fun s34 => C.any fun _ =>
            C.join (TL []) (embL []) (fun s39 => C.any fun _ =>
                C.join (TL []) (embL []) (fun s44 => C.any fun _ =>
                    C.ld .agg 1 (Addr.mk b9 0 none) fun v63 =>
                    C.call n_laws_markStore [(.agg v63), (.int .i64 1)] [(.int .i64)] fun r65 =>
                    C.join (TL []) (embL []) (fun s51 => C.any fun _ =>
                        C.call n_laws_markEntryS [(.slice s34.1.a s34.1.n s34.1.c), (.int .i64 1)] [(.int .i64)] fun r87 =>
                        C.call n_laws_heldEntryS [(.slice s34.1.a s34.1.n s34.1.c), (.int .i64 1)] [(.int .i64)] fun r90 =>
                        cond (decide (r90 < 0)) (
                          C.ret (.bool false)
                        ) (
                          cond (r90 != r87) (
                            C.ret (.bool false)
                          ) (
                            C.join (TL [.slice, .ptr, (.int .i64)]) (embL [.slice, .ptr, (.int .i64)]) (fun s69 => C.any fun _ =>
                                C.join (TL []) (embL []) (fun s74 => C.any fun _ =>
                                    C.call n_laws_heldEntryS [(.slice s34.1.a s34.1.n s34.1.c), (.int .i64 1)] [(.int .i64)] fun r122 =>
                                    cond (decide (r122 < 0)) (
                                      C.ret (.bool false)
                                    ) (
                                      cond (r122 != r87) (
                                        C.ret (.bool false)
                                      ) (
                                        C.ret (.bool true)
                                      )
                                    )
                                  ) fun jt =>
                                C.call n_laws_eqEntryS [(.slice s69.1.a s69.1.n s69.1.c), (.slice s20.1.a s20.1.n s20.1.c)] [.bool] fun r107 =>
                                cond (!r107) (
                                  C.ret (.bool false)
                                ) (
                                  C.ld .agg 32 s69.2.1 fun v110 =>
                                  C.ld .agg 32 s20.2.1 fun v111 =>
                                  C.call n_laws_eqKey [(.agg v110), (.agg v111)] [.bool] fun r112 =>
                                  cond (!r112) (
                                    C.ret (.bool false)
                                  ) (
                                    cond (s69.2.2 != s20.2.2) (
                                      C.ret (.bool false)
                                    ) (
                                      jt []
                                    )
                                  )
                                )
                              ) fun jt =>
                            C.draw <|
                            C.ld .agg 1 (Addr.mk b2 0 none) fun v97 =>
                            C.ld .agg 32 (Addr.mk b3 0 none) fun v99 =>
                            C.all [
                              (C.call n_laws_toStore [(.agg v97)] [.agg] fun r98 =>
                               C.chk [⟨2, 32, (Addr.mk b3 0 none), .agg, v99⟩] <|
                               C.all [
                                 (C.call n_laws_toKey [(.agg v99)] [.agg] fun r100 =>
                                  C.all [
                                    (C.call n_impl_LoadMap [(.agg r98), (.agg r100)] [.slice, .agg, (.int .i64)] fun r101 =>
                                     C.new ty_impl_Key (.agg (Array.replicate 32 (.int .u8 0))) fun b17 =>
                                     C.st 32 (Addr.mk b17 0 none) (.agg r101.2.1) <|
                                     jt [(.slice r101.1.a r101.1.n r101.1.c), (.pointer (some (Addr.mk b17 0 none))), (.int .i64 r101.2.2)]),
                                    (C.new ty_impl_Key (.agg (Array.replicate 32 (.int .u8 0))) fun b17 =>
                                     C.call n_impl_LoadMap [(.agg r98), (.agg r100)] [.slice, .agg, (.int .i64)] fun r101 =>
                                     C.st 32 (Addr.mk b17 0 none) (.agg r101.2.1) <|
                                     jt [(.slice r101.1.a r101.1.n r101.1.c), (.pointer (some (Addr.mk b17 0 none))), (.int .i64 r101.2.2)])]),
                                 (C.new ty_impl_Key (.agg (Array.replicate 32 (.int .u8 0))) fun b17 =>
                                  C.chk [⟨2, 32, (Addr.mk b3 0 none), .agg, v99⟩] <|
                                  C.call n_laws_toKey [(.agg v99)] [.agg] fun r100 =>
                                  C.call n_impl_LoadMap [(.agg r98), (.agg r100)] [.slice, .agg, (.int .i64)] fun r101 =>
                                  C.st 32 (Addr.mk b17 0 none) (.agg r101.2.1) <|
                                  jt [(.slice r101.1.a r101.1.n r101.1.c), (.pointer (some (Addr.mk b17 0 none))), (.int .i64 r101.2.2)])]),
                              (C.new ty_impl_Key (.agg (Array.replicate 32 (.int .u8 0))) fun b17 =>
                               C.chk [⟨2, 32, (Addr.mk b3 0 none), .agg, v99⟩, ⟨0, 1, (Addr.mk b2 0 none), .agg, v97⟩] <|
                               C.call n_laws_toStore [(.agg v97)] [.agg] fun r98 =>
                               C.chk [⟨2, 32, (Addr.mk b3 0 none), .agg, v99⟩] <|
                               C.call n_laws_toKey [(.agg v99)] [.agg] fun r100 =>
                               C.call n_impl_LoadMap [(.agg r98), (.agg r100)] [.slice, .agg, (.int .i64)] fun r101 =>
                               C.st 32 (Addr.mk b17 0 none) (.agg r101.2.1) <|
                               jt [(.slice r101.1.a r101.1.n r101.1.c), (.pointer (some (Addr.mk b17 0 none))), (.int .i64 r101.2.2)])]
                          )
                        )
                      ) fun jt =>
                    cond (decide (r65 < 0)) (
                      C.ret (.bool false)
                    ) (
                      C.call n_laws_eqEntryS [(.slice s34.1.a s34.1.n s34.1.c), (.slice s20.1.a s20.1.n s20.1.c)] [.bool] fun r71 =>
                      cond (!r71) (
                        C.ret (.bool false)
                      ) (
                        C.ld .agg 32 s34.2.1 fun v75 =>
                        C.ld .agg 32 s20.2.1 fun v76 =>
                        C.call n_laws_eqKey [(.agg v75), (.agg v76)] [.bool] fun r77 =>
                        cond (!r77) (
                          C.ret (.bool false)
                        ) (
                          cond (s34.2.2 != s20.2.2) (
                            C.ret (.bool false)
                          ) (
                            jt []
                          )
                        )
                      )
                    )
                  ) fun jt =>
                C.draw <|
                C.ld .agg 1 (Addr.mk b9 0 none) fun v58 =>
                C.ld .agg 1 (Addr.mk b2 0 none) fun v59 =>
                C.call n_laws_toStore [(.agg v59)] [.agg] fun r60 =>
                C.chk [⟨0, 1, (Addr.mk b9 0 none), .agg, v58⟩] <|
                C.call n_laws_eqStore [(.agg v58), (.agg r60)] [.bool] fun r61 =>
                cond (!r61) (
                  C.ret (.bool false)
                ) (
                  jt []
                )
              ) fun jt =>
            C.call n_laws_eqEntryS [(.slice s34.1.a s34.1.n s34.1.c), (.slice s20.1.a s20.1.n s20.1.c)] [.bool] fun r45 =>
            cond (!r45) (
              C.ret (.bool false)
            ) (
              C.ld .agg 32 s34.2.1 fun v48 =>
              C.ld .agg 32 s20.2.1 fun v49 =>
              C.call n_laws_eqKey [(.agg v48), (.agg v49)] [.bool] fun r50 =>
              cond (!r50) (
                C.ret (.bool false)
              ) (
                cond (s34.2.2 != s20.2.2) (
                  C.ret (.bool false)
                ) (
                  jt []
                )
              )
            )
          ) fun jt =>
        C.draw <|
        C.ld .agg 1 (Addr.mk b9 0 none) fun v36 =>
        C.ld .agg 32 (Addr.mk b3 0 none) fun v37 =>
        C.all [
          (C.call n_laws_toKey [(.agg v37)] [.agg] fun r38 =>
           C.chk [⟨0, 1, (Addr.mk b9 0 none), .agg, v36⟩] <|
           C.all [
             (C.call n_impl_LoadMap [(.agg v36), (.agg r38)] [.slice, .agg, (.int .i64)] fun r39 =>
              C.new ty_impl_Key (.agg (Array.replicate 32 (.int .u8 0))) fun b11 =>
              C.st 32 (Addr.mk b11 0 none) (.agg r39.2.1) <|
              jt [(.slice r39.1.a r39.1.n r39.1.c), (.pointer (some (Addr.mk b11 0 none))), (.int .i64 r39.2.2)]),
             (C.new ty_impl_Key (.agg (Array.replicate 32 (.int .u8 0))) fun b11 =>
              C.chk [⟨0, 1, (Addr.mk b9 0 none), .agg, v36⟩] <|
              C.call n_impl_LoadMap [(.agg v36), (.agg r38)] [.slice, .agg, (.int .i64)] fun r39 =>
              C.st 32 (Addr.mk b11 0 none) (.agg r39.2.1) <|
              jt [(.slice r39.1.a r39.1.n r39.1.c), (.pointer (some (Addr.mk b11 0 none))), (.int .i64 r39.2.2)])]),
          (C.new ty_impl_Key (.agg (Array.replicate 32 (.int .u8 0))) fun b11 =>
           C.chk [⟨1, 32, (Addr.mk b3 0 none), .agg, v37⟩, ⟨0, 1, (Addr.mk b9 0 none), .agg, v36⟩] <|
           C.call n_laws_toKey [(.agg v37)] [.agg] fun r38 =>
           C.chk [⟨0, 1, (Addr.mk b9 0 none), .agg, v36⟩] <|
           C.call n_impl_LoadMap [(.agg v36), (.agg r38)] [.slice, .agg, (.int .i64)] fun r39 =>
           C.st 32 (Addr.mk b11 0 none) (.agg r39.2.1) <|
           jt [(.slice r39.1.a r39.1.n r39.1.c), (.pointer (some (Addr.mk b11 0 none))), (.int .i64 r39.2.2)])]
      ) fun jt =>
    C.draw <|
    C.ld .agg 1 (Addr.mk b2 0 none) fun v25 =>
    C.ld .agg 32 (Addr.mk b3 0 none) fun v27 =>
    C.all [
      (C.call n_laws_toStore [(.agg v25)] [.agg] fun r26 =>
       C.chk [⟨2, 32, (Addr.mk b3 0 none), .agg, v27⟩] <|
       C.all [
         (C.call n_laws_toKey [(.agg v27)] [.agg] fun r28 =>
          C.all [
            (C.call n_spec_LoadMap [(.agg r26), (.agg r28)] [.slice, .agg, (.int .i64)] fun r29 =>
             C.new ty_impl_Key (.agg (Array.replicate 32 (.int .u8 0))) fun b7 =>
             C.st 32 (Addr.mk b7 0 none) (.agg r29.2.1) <|
             jt [(.slice r29.1.a r29.1.n r29.1.c), (.pointer (some (Addr.mk b7 0 none))), (.int .i64 r29.2.2)]),
            (C.new ty_impl_Key (.agg (Array.replicate 32 (.int .u8 0))) fun b7 =>
             C.call n_spec_LoadMap [(.agg r26), (.agg r28)] [.slice, .agg, (.int .i64)] fun r29 =>
             C.st 32 (Addr.mk b7 0 none) (.agg r29.2.1) <|
             jt [(.slice r29.1.a r29.1.n r29.1.c), (.pointer (some (Addr.mk b7 0 none))), (.int .i64 r29.2.2)])]),
         (C.new ty_impl_Key (.agg (Array.replicate 32 (.int .u8 0))) fun b7 =>
          C.chk [⟨2, 32, (Addr.mk b3 0 none), .agg, v27⟩] <|
          C.call n_laws_toKey [(.agg v27)] [.agg] fun r28 =>
          C.call n_spec_LoadMap [(.agg r26), (.agg r28)] [.slice, .agg, (.int .i64)] fun r29 =>
          C.st 32 (Addr.mk b7 0 none) (.agg r29.2.1) <|
          jt [(.slice r29.1.a r29.1.n r29.1.c), (.pointer (some (Addr.mk b7 0 none))), (.int .i64 r29.2.2)])]),
      (C.new ty_impl_Key (.agg (Array.replicate 32 (.int .u8 0))) fun b7 =>
       C.chk [⟨2, 32, (Addr.mk b3 0 none), .agg, v27⟩, ⟨0, 1, (Addr.mk b2 0 none), .agg, v25⟩] <|
       C.call n_laws_toStore [(.agg v25)] [.agg] fun r26 =>
       C.chk [⟨2, 32, (Addr.mk b3 0 none), .agg, v27⟩] <|
       C.call n_laws_toKey [(.agg v27)] [.agg] fun r28 =>
       C.call n_spec_LoadMap [(.agg r26), (.agg r28)] [.slice, .agg, (.int .i64)] fun r29 =>
       C.st 32 (Addr.mk b7 0 none) (.agg r29.2.1) <|
       jt [(.slice r29.1.a r29.1.n r29.1.c), (.pointer (some (Addr.mk b7 0 none))), (.int .i64 r29.2.2)])]
  )
theorem laws_FnExactLoadMap_eq (C : Comb) (x0 : Array Value) (x1 : Array Value) : fT C Tryz.prog { loop := [], join := [(16, [(6, .slice), (7, .ptr), (8, (.int .i64))]), (22, [(10, .slice), (11, .ptr), (12, (.int .i64))]), (171, []), (186, []), (252, []), (73, [(16, .slice), (17, .ptr), (18, (.int .i64))]), (357, [])], anyOrder := [5, 7, 10, 24], pure := [] } n_laws_FnExactLoadMap [(.agg x0), (.agg x1)] = laws_FnExactLoadMap C x0 x1 := by kernel_rfl
theorem laws_FnExactLoadMap_calls {R : Value → World → Prop} {w : World} (x0 : Array Value) (x1 : Array Value) (h : (laws_FnExactLoadMap (real Tryz.prog R) x0 x1 : World → Prop) w) :
    Calls Tryz.prog n_laws_FnExactLoadMap [(.agg x0), (.agg x1)].toArray w fun e w' => ∃ v, e = .returned v ∧ R v w' := fT_sound mixed { loop := [], join := [(16, [(6, .slice), (7, .ptr), (8, (.int .i64))]), (22, [(10, .slice), (11, .ptr), (12, (.int .i64))]), (171, []), (186, []), (252, []), (73, [(16, .slice), (17, .ptr), (18, (.int .i64))]), (357, [])], anyOrder := [5, 7, 10, 24], pure := [] } (by rw [laws_FnExactLoadMap_eq]; exact h)

/-- laws.FnExactGetPartial (9) -/
def laws_FnExactGetPartial (C : Comb) (x0 : Array Value) (x1 : Array Value) (x2 : ByteArray) : C.St :=
  C.new ty_laws_Store (.agg x0) fun b3 =>
  C.new ty_arr32_uint8 (.agg x1) fun b4 =>
  cond (decide ((x2.size : Int) > 1048576)) (
    C.ret (.bool true)
  ) (
    C.ld .agg 1 (Addr.mk b3 0 none) fun v18 =>
    C.call n_laws_szStore [(.agg v18), (.int .i64 1048576)] [(.int .i64)] fun r20 =>
    cond (decide (r20 < 0)) (
      C.ret (.bool true)
    ) (
      C.join (TL [.str, .ptr, (.int .i64)]) (embL [.str, .ptr, (.int .i64)]) (fun s20 => C.any fun _ =>
          C.ld .agg 1 (Addr.mk b3 0 none) fun v33 =>
          C.call n_laws_toStore [(.agg v33)] [.agg] fun r34 =>
          C.new ty_impl_Store (.agg (#[(.slice none 0 0)])) fun b11 =>
          C.st 1 (Addr.mk b11 0 none) (.agg r34) <|
          C.join (TL [.str, .ptr, (.int .i64)]) (embL [.str, .ptr, (.int .i64)]) (fun s34 => C.any fun _ =>
              C.join (TL []) (embL []) (fun s39 => C.any fun _ =>
                  C.draw <|
                  C.ld .agg 1 (Addr.mk b11 0 none) fun v58 =>
                  C.ld .agg 1 (Addr.mk b3 0 none) fun v59 =>
                  C.call n_laws_toStore [(.agg v59)] [.agg] fun r60 =>
                  C.chk [⟨0, 1, (Addr.mk b11 0 none), .agg, v58⟩] <|
                  C.call n_laws_eqStore [(.agg v58), (.agg r60)] [.bool] fun r61 =>
                  cond (!r61) (
                    C.ret (.bool false)
                  ) (
                    C.ret (.bool true)
                  )
                ) fun jt =>
              C.pur (eqB .neq ty_string (.tmp 44) (.tmp 45) (.string s34.1) (.string s20.1)) .bool fun y46 =>
              cond y46 (
                C.ret (.bool false)
              ) (
                C.ld .agg 32 s34.2.1 fun v48 =>
                C.ld .agg 32 s20.2.1 fun v49 =>
                C.call n_laws_eqKey [(.agg v48), (.agg v49)] [.bool] fun r50 =>
                cond (!r50) (
                  C.ret (.bool false)
                ) (
                  cond (s34.2.2 != s20.2.2) (
                    C.ret (.bool false)
                  ) (
                    jt []
                  )
                )
              )
            ) fun jt =>
          C.draw <|
          C.ld .agg 1 (Addr.mk b11 0 none) fun v36 =>
          C.ld .agg 32 (Addr.mk b4 0 none) fun v37 =>
          C.all [
            (C.call n_laws_toKey [(.agg v37)] [.agg] fun r38 =>
             C.chk [⟨0, 1, (Addr.mk b11 0 none), .agg, v36⟩] <|
             C.all [
               (C.call n_impl_GetPartial [(.agg v36), (.agg r38), (.string x2)] [.str, .agg, (.int .i64)] fun r40 =>
                C.new ty_impl_Key (.agg (Array.replicate 32 (.int .u8 0))) fun b13 =>
                C.st 32 (Addr.mk b13 0 none) (.agg r40.2.1) <|
                jt [(.string r40.1), (.pointer (some (Addr.mk b13 0 none))), (.int .i64 r40.2.2)]),
               (C.new ty_impl_Key (.agg (Array.replicate 32 (.int .u8 0))) fun b13 =>
                C.chk [⟨0, 1, (Addr.mk b11 0 none), .agg, v36⟩] <|
                C.call n_impl_GetPartial [(.agg v36), (.agg r38), (.string x2)] [.str, .agg, (.int .i64)] fun r40 =>
                C.st 32 (Addr.mk b13 0 none) (.agg r40.2.1) <|
                jt [(.string r40.1), (.pointer (some (Addr.mk b13 0 none))), (.int .i64 r40.2.2)])]),
            (C.new ty_impl_Key (.agg (Array.replicate 32 (.int .u8 0))) fun b13 =>
             C.chk [⟨1, 32, (Addr.mk b4 0 none), .agg, v37⟩, ⟨0, 1, (Addr.mk b11 0 none), .agg, v36⟩] <|
             C.call n_laws_toKey [(.agg v37)] [.agg] fun r38 =>
             C.chk [⟨0, 1, (Addr.mk b11 0 none), .agg, v36⟩] <|
             C.call n_impl_GetPartial [(.agg v36), (.agg r38), (.string x2)] [.str, .agg, (.int .i64)] fun r40 =>
             C.st 32 (Addr.mk b13 0 none) (.agg r40.2.1) <|
             jt [(.string r40.1), (.pointer (some (Addr.mk b13 0 none))), (.int .i64 r40.2.2)])]
        ) fun jt =>
      C.draw <|
      C.ld .agg 1 (Addr.mk b3 0 none) fun v24 =>
      C.ld .agg 32 (Addr.mk b4 0 none) fun v26 =>
      C.all [
        (C.call n_laws_toStore [(.agg v24)] [.agg] fun r25 =>
         C.chk [⟨2, 32, (Addr.mk b4 0 none), .agg, v26⟩] <|
         C.all [
           (C.call n_laws_toKey [(.agg v26)] [.agg] fun r27 =>
            C.all [
              (C.call n_spec_GetPartial [(.agg r25), (.agg r27), (.string x2)] [.str, .agg, (.int .i64)] fun r29 =>
               C.new ty_impl_Key (.agg (Array.replicate 32 (.int .u8 0))) fun b9 =>
               C.st 32 (Addr.mk b9 0 none) (.agg r29.2.1) <|
               jt [(.string r29.1), (.pointer (some (Addr.mk b9 0 none))), (.int .i64 r29.2.2)]),
              (C.new ty_impl_Key (.agg (Array.replicate 32 (.int .u8 0))) fun b9 =>
               C.call n_spec_GetPartial [(.agg r25), (.agg r27), (.string x2)] [.str, .agg, (.int .i64)] fun r29 =>
               C.st 32 (Addr.mk b9 0 none) (.agg r29.2.1) <|
               jt [(.string r29.1), (.pointer (some (Addr.mk b9 0 none))), (.int .i64 r29.2.2)])]),
           (C.new ty_impl_Key (.agg (Array.replicate 32 (.int .u8 0))) fun b9 =>
            C.chk [⟨2, 32, (Addr.mk b4 0 none), .agg, v26⟩] <|
            C.call n_laws_toKey [(.agg v26)] [.agg] fun r27 =>
            C.call n_spec_GetPartial [(.agg r25), (.agg r27), (.string x2)] [.str, .agg, (.int .i64)] fun r29 =>
            C.st 32 (Addr.mk b9 0 none) (.agg r29.2.1) <|
            jt [(.string r29.1), (.pointer (some (Addr.mk b9 0 none))), (.int .i64 r29.2.2)])]),
        (C.new ty_impl_Key (.agg (Array.replicate 32 (.int .u8 0))) fun b9 =>
         C.chk [⟨2, 32, (Addr.mk b4 0 none), .agg, v26⟩, ⟨0, 1, (Addr.mk b3 0 none), .agg, v24⟩] <|
         C.call n_laws_toStore [(.agg v24)] [.agg] fun r25 =>
         C.chk [⟨2, 32, (Addr.mk b4 0 none), .agg, v26⟩] <|
         C.call n_laws_toKey [(.agg v26)] [.agg] fun r27 =>
         C.call n_spec_GetPartial [(.agg r25), (.agg r27), (.string x2)] [.str, .agg, (.int .i64)] fun r29 =>
         C.st 32 (Addr.mk b9 0 none) (.agg r29.2.1) <|
         jt [(.string r29.1), (.pointer (some (Addr.mk b9 0 none))), (.int .i64 r29.2.2)])]
    )
  )
theorem laws_FnExactGetPartial_eq (C : Comb) (x0 : Array Value) (x1 : Array Value) (x2 : ByteArray) : fT C Tryz.prog { loop := [], join := [(22, [(8, .str), (9, .ptr), (10, (.int .i64))]), (28, [(12, .str), (13, .ptr), (14, (.int .i64))]), (171, [])], anyOrder := [7, 9, 12], pure := [] } n_laws_FnExactGetPartial [(.agg x0), (.agg x1), (.string x2)] = laws_FnExactGetPartial C x0 x1 x2 := by kernel_rfl
theorem laws_FnExactGetPartial_calls {R : Value → World → Prop} {w : World} (x0 : Array Value) (x1 : Array Value) (x2 : ByteArray) (h : (laws_FnExactGetPartial (real Tryz.prog R) x0 x1 x2 : World → Prop) w) :
    Calls Tryz.prog n_laws_FnExactGetPartial [(.agg x0), (.agg x1), (.string x2)].toArray w fun e w' => ∃ v, e = .returned v ∧ R v w' := fT_sound mixed { loop := [], join := [(22, [(8, .str), (9, .ptr), (10, (.int .i64))]), (28, [(12, .str), (13, .ptr), (14, (.int .i64))]), (171, [])], anyOrder := [7, 9, 12], pure := [] } (by rw [laws_FnExactGetPartial_eq]; exact h)

/-- laws.FnExactRangePartial (10) -/
def laws_FnExactRangePartial (C : Comb) (x0 : Array Value) (x1 : Array Value) (x2 : ByteArray) (x3 : ByteArray) : C.St :=
  C.new ty_laws_Store (.agg x0) fun b4 =>
  C.new ty_arr32_uint8 (.agg x1) fun b5 =>
  cond (decide ((x2.size : Int) > 1048576)) (
    C.ret (.bool true)
  ) (
    cond (decide ((x3.size : Int) > 1048576)) (
      C.ret (.bool true)
    ) (
      C.ld .agg 1 (Addr.mk b4 0 none) fun v29 =>
      C.call n_laws_szStore [(.agg v29), (.int .i64 1048576)] [(.int .i64)] fun r31 =>
      cond (decide (r31 < 0)) (
        C.ret (.bool true)
      ) (
        C.join (TL [.slice, .ptr, (.int .i64)]) (embL [.slice, .ptr, (.int .i64)]) (fun s20 => C.any fun _ =>
            C.ld .agg 1 (Addr.mk b4 0 none) fun v45 =>
            C.call n_laws_toStore [(.agg v45)] [.agg] fun r46 =>
            C.new ty_impl_Store (.agg (#[(.slice none 0 0)])) fun b13 =>
            C.st 1 (Addr.mk b13 0 none) (.agg r46) <|
            C.join (TL [.slice, .ptr, (.int .i64)]) (embL [.slice, .ptr, (.int .i64)]) (fun s34 => C.any fun _ =>
                C.join (TL []) (embL []) (fun s39 => C.any fun _ =>
                    C.join (TL []) (embL []) (fun s44 => C.any fun _ =>
                        C.ld .agg 1 (Addr.mk b13 0 none) fun v77 =>
                        C.call n_laws_markStore [(.agg v77), (.int .i64 1)] [(.int .i64)] fun r79 =>
                        C.join (TL []) (embL []) (fun s51 => C.any fun _ =>
                            C.call n_laws_markEntryS [(.slice s34.1.a s34.1.n s34.1.c), (.int .i64 1)] [(.int .i64)] fun r101 =>
                            C.call n_laws_heldEntryS [(.slice s34.1.a s34.1.n s34.1.c), (.int .i64 1)] [(.int .i64)] fun r104 =>
                            cond (decide (r104 < 0)) (
                              C.ret (.bool false)
                            ) (
                              cond (r104 != r101) (
                                C.ret (.bool false)
                              ) (
                                C.join (TL [.slice, .ptr, (.int .i64)]) (embL [.slice, .ptr, (.int .i64)]) (fun s69 => C.any fun _ =>
                                    C.join (TL []) (embL []) (fun s74 => C.any fun _ =>
                                        C.call n_laws_heldEntryS [(.slice s34.1.a s34.1.n s34.1.c), (.int .i64 1)] [(.int .i64)] fun r138 =>
                                        cond (decide (r138 < 0)) (
                                          C.ret (.bool false)
                                        ) (
                                          cond (r138 != r101) (
                                            C.ret (.bool false)
                                          ) (
                                            C.ret (.bool true)
                                          )
                                        )
                                      ) fun jt =>
                                    C.call n_laws_eqEntryS [(.slice s69.1.a s69.1.n s69.1.c), (.slice s20.1.a s20.1.n s20.1.c)] [.bool] fun r123 =>
                                    cond (!r123) (
                                      C.ret (.bool false)
                                    ) (
                                      C.ld .agg 32 s69.2.1 fun v126 =>
                                      C.ld .agg 32 s20.2.1 fun v127 =>
                                      C.call n_laws_eqKey [(.agg v126), (.agg v127)] [.bool] fun r128 =>
                                      cond (!r128) (
                                        C.ret (.bool false)
                                      ) (
                                        cond (s69.2.2 != s20.2.2) (
                                          C.ret (.bool false)
                                        ) (
                                          jt []
                                        )
                                      )
                                    )
                                  ) fun jt =>
                                C.draw <|
                                C.ld .agg 1 (Addr.mk b4 0 none) fun v111 =>
                                C.ld .agg 32 (Addr.mk b5 0 none) fun v113 =>
                                C.all [
                                  (C.call n_laws_toStore [(.agg v111)] [.agg] fun r112 =>
                                   C.chk [⟨2, 32, (Addr.mk b5 0 none), .agg, v113⟩] <|
                                   C.all [
                                     (C.call n_laws_toKey [(.agg v113)] [.agg] fun r114 =>
                                      C.all [
                                        (C.call n_impl_RangePartial [(.agg r112), (.agg r114), (.string x2), (.string x3)] [.slice, .agg, (.int .i64)] fun r117 =>
                                         C.new ty_impl_Key (.agg (Array.replicate 32 (.int .u8 0))) fun b21 =>
                                         C.st 32 (Addr.mk b21 0 none) (.agg r117.2.1) <|
                                         jt [(.slice r117.1.a r117.1.n r117.1.c), (.pointer (some (Addr.mk b21 0 none))), (.int .i64 r117.2.2)]),
                                        (C.new ty_impl_Key (.agg (Array.replicate 32 (.int .u8 0))) fun b21 =>
                                         C.call n_impl_RangePartial [(.agg r112), (.agg r114), (.string x2), (.string x3)] [.slice, .agg, (.int .i64)] fun r117 =>
                                         C.st 32 (Addr.mk b21 0 none) (.agg r117.2.1) <|
                                         jt [(.slice r117.1.a r117.1.n r117.1.c), (.pointer (some (Addr.mk b21 0 none))), (.int .i64 r117.2.2)])]),
                                     (C.new ty_impl_Key (.agg (Array.replicate 32 (.int .u8 0))) fun b21 =>
                                      C.chk [⟨2, 32, (Addr.mk b5 0 none), .agg, v113⟩] <|
                                      C.call n_laws_toKey [(.agg v113)] [.agg] fun r114 =>
                                      C.call n_impl_RangePartial [(.agg r112), (.agg r114), (.string x2), (.string x3)] [.slice, .agg, (.int .i64)] fun r117 =>
                                      C.st 32 (Addr.mk b21 0 none) (.agg r117.2.1) <|
                                      jt [(.slice r117.1.a r117.1.n r117.1.c), (.pointer (some (Addr.mk b21 0 none))), (.int .i64 r117.2.2)])]),
                                  (C.new ty_impl_Key (.agg (Array.replicate 32 (.int .u8 0))) fun b21 =>
                                   C.chk [⟨2, 32, (Addr.mk b5 0 none), .agg, v113⟩, ⟨0, 1, (Addr.mk b4 0 none), .agg, v111⟩] <|
                                   C.call n_laws_toStore [(.agg v111)] [.agg] fun r112 =>
                                   C.chk [⟨2, 32, (Addr.mk b5 0 none), .agg, v113⟩] <|
                                   C.call n_laws_toKey [(.agg v113)] [.agg] fun r114 =>
                                   C.call n_impl_RangePartial [(.agg r112), (.agg r114), (.string x2), (.string x3)] [.slice, .agg, (.int .i64)] fun r117 =>
                                   C.st 32 (Addr.mk b21 0 none) (.agg r117.2.1) <|
                                   jt [(.slice r117.1.a r117.1.n r117.1.c), (.pointer (some (Addr.mk b21 0 none))), (.int .i64 r117.2.2)])]
                              )
                            )
                          ) fun jt =>
                        cond (decide (r79 < 0)) (
                          C.ret (.bool false)
                        ) (
                          C.call n_laws_eqEntryS [(.slice s34.1.a s34.1.n s34.1.c), (.slice s20.1.a s20.1.n s20.1.c)] [.bool] fun r85 =>
                          cond (!r85) (
                            C.ret (.bool false)
                          ) (
                            C.ld .agg 32 s34.2.1 fun v89 =>
                            C.ld .agg 32 s20.2.1 fun v90 =>
                            C.call n_laws_eqKey [(.agg v89), (.agg v90)] [.bool] fun r91 =>
                            cond (!r91) (
                              C.ret (.bool false)
                            ) (
                              cond (s34.2.2 != s20.2.2) (
                                C.ret (.bool false)
                              ) (
                                jt []
                              )
                            )
                          )
                        )
                      ) fun jt =>
                    C.draw <|
                    C.ld .agg 1 (Addr.mk b13 0 none) fun v72 =>
                    C.ld .agg 1 (Addr.mk b4 0 none) fun v73 =>
                    C.call n_laws_toStore [(.agg v73)] [.agg] fun r74 =>
                    C.chk [⟨0, 1, (Addr.mk b13 0 none), .agg, v72⟩] <|
                    C.call n_laws_eqStore [(.agg v72), (.agg r74)] [.bool] fun r75 =>
                    cond (!r75) (
                      C.ret (.bool false)
                    ) (
                      jt []
                    )
                  ) fun jt =>
                C.call n_laws_eqEntryS [(.slice s34.1.a s34.1.n s34.1.c), (.slice s20.1.a s20.1.n s20.1.c)] [.bool] fun r59 =>
                cond (!r59) (
                  C.ret (.bool false)
                ) (
                  C.ld .agg 32 s34.2.1 fun v62 =>
                  C.ld .agg 32 s20.2.1 fun v63 =>
                  C.call n_laws_eqKey [(.agg v62), (.agg v63)] [.bool] fun r64 =>
                  cond (!r64) (
                    C.ret (.bool false)
                  ) (
                    cond (s34.2.2 != s20.2.2) (
                      C.ret (.bool false)
                    ) (
                      jt []
                    )
                  )
                )
              ) fun jt =>
            C.draw <|
            C.ld .agg 1 (Addr.mk b13 0 none) fun v48 =>
            C.ld .agg 32 (Addr.mk b5 0 none) fun v49 =>
            C.all [
              (C.call n_laws_toKey [(.agg v49)] [.agg] fun r50 =>
               C.chk [⟨0, 1, (Addr.mk b13 0 none), .agg, v48⟩] <|
               C.all [
                 (C.call n_impl_RangePartial [(.agg v48), (.agg r50), (.string x2), (.string x3)] [.slice, .agg, (.int .i64)] fun r53 =>
                  C.new ty_impl_Key (.agg (Array.replicate 32 (.int .u8 0))) fun b15 =>
                  C.st 32 (Addr.mk b15 0 none) (.agg r53.2.1) <|
                  jt [(.slice r53.1.a r53.1.n r53.1.c), (.pointer (some (Addr.mk b15 0 none))), (.int .i64 r53.2.2)]),
                 (C.new ty_impl_Key (.agg (Array.replicate 32 (.int .u8 0))) fun b15 =>
                  C.chk [⟨0, 1, (Addr.mk b13 0 none), .agg, v48⟩] <|
                  C.call n_impl_RangePartial [(.agg v48), (.agg r50), (.string x2), (.string x3)] [.slice, .agg, (.int .i64)] fun r53 =>
                  C.st 32 (Addr.mk b15 0 none) (.agg r53.2.1) <|
                  jt [(.slice r53.1.a r53.1.n r53.1.c), (.pointer (some (Addr.mk b15 0 none))), (.int .i64 r53.2.2)])]),
              (C.new ty_impl_Key (.agg (Array.replicate 32 (.int .u8 0))) fun b15 =>
               C.chk [⟨1, 32, (Addr.mk b5 0 none), .agg, v49⟩, ⟨0, 1, (Addr.mk b13 0 none), .agg, v48⟩] <|
               C.call n_laws_toKey [(.agg v49)] [.agg] fun r50 =>
               C.chk [⟨0, 1, (Addr.mk b13 0 none), .agg, v48⟩] <|
               C.call n_impl_RangePartial [(.agg v48), (.agg r50), (.string x2), (.string x3)] [.slice, .agg, (.int .i64)] fun r53 =>
               C.st 32 (Addr.mk b15 0 none) (.agg r53.2.1) <|
               jt [(.slice r53.1.a r53.1.n r53.1.c), (.pointer (some (Addr.mk b15 0 none))), (.int .i64 r53.2.2)])]
          ) fun jt =>
        C.draw <|
        C.ld .agg 1 (Addr.mk b4 0 none) fun v35 =>
        C.ld .agg 32 (Addr.mk b5 0 none) fun v37 =>
        C.all [
          (C.call n_laws_toStore [(.agg v35)] [.agg] fun r36 =>
           C.chk [⟨2, 32, (Addr.mk b5 0 none), .agg, v37⟩] <|
           C.all [
             (C.call n_laws_toKey [(.agg v37)] [.agg] fun r38 =>
              C.all [
                (C.call n_spec_RangePartial [(.agg r36), (.agg r38), (.string x2), (.string x3)] [.slice, .agg, (.int .i64)] fun r41 =>
                 C.new ty_impl_Key (.agg (Array.replicate 32 (.int .u8 0))) fun b11 =>
                 C.st 32 (Addr.mk b11 0 none) (.agg r41.2.1) <|
                 jt [(.slice r41.1.a r41.1.n r41.1.c), (.pointer (some (Addr.mk b11 0 none))), (.int .i64 r41.2.2)]),
                (C.new ty_impl_Key (.agg (Array.replicate 32 (.int .u8 0))) fun b11 =>
                 C.call n_spec_RangePartial [(.agg r36), (.agg r38), (.string x2), (.string x3)] [.slice, .agg, (.int .i64)] fun r41 =>
                 C.st 32 (Addr.mk b11 0 none) (.agg r41.2.1) <|
                 jt [(.slice r41.1.a r41.1.n r41.1.c), (.pointer (some (Addr.mk b11 0 none))), (.int .i64 r41.2.2)])]),
             (C.new ty_impl_Key (.agg (Array.replicate 32 (.int .u8 0))) fun b11 =>
              C.chk [⟨2, 32, (Addr.mk b5 0 none), .agg, v37⟩] <|
              C.call n_laws_toKey [(.agg v37)] [.agg] fun r38 =>
              C.call n_spec_RangePartial [(.agg r36), (.agg r38), (.string x2), (.string x3)] [.slice, .agg, (.int .i64)] fun r41 =>
              C.st 32 (Addr.mk b11 0 none) (.agg r41.2.1) <|
              jt [(.slice r41.1.a r41.1.n r41.1.c), (.pointer (some (Addr.mk b11 0 none))), (.int .i64 r41.2.2)])]),
          (C.new ty_impl_Key (.agg (Array.replicate 32 (.int .u8 0))) fun b11 =>
           C.chk [⟨2, 32, (Addr.mk b5 0 none), .agg, v37⟩, ⟨0, 1, (Addr.mk b4 0 none), .agg, v35⟩] <|
           C.call n_laws_toStore [(.agg v35)] [.agg] fun r36 =>
           C.chk [⟨2, 32, (Addr.mk b5 0 none), .agg, v37⟩] <|
           C.call n_laws_toKey [(.agg v37)] [.agg] fun r38 =>
           C.call n_spec_RangePartial [(.agg r36), (.agg r38), (.string x2), (.string x3)] [.slice, .agg, (.int .i64)] fun r41 =>
           C.st 32 (Addr.mk b11 0 none) (.agg r41.2.1) <|
           jt [(.slice r41.1.a r41.1.n r41.1.c), (.pointer (some (Addr.mk b11 0 none))), (.int .i64 r41.2.2)])]
      )
    )
  )
theorem laws_FnExactRangePartial_eq (C : Comb) (x0 : Array Value) (x1 : Array Value) (x2 : ByteArray) (x3 : ByteArray) : fT C Tryz.prog { loop := [], join := [(28, [(10, .slice), (11, .ptr), (12, (.int .i64))]), (34, [(14, .slice), (15, .ptr), (16, (.int .i64))]), (213, []), (228, []), (294, []), (85, [(20, .slice), (21, .ptr), (22, (.int .i64))]), (405, [])], anyOrder := [9, 11, 14, 28], pure := [] } n_laws_FnExactRangePartial [(.agg x0), (.agg x1), (.string x2), (.string x3)] = laws_FnExactRangePartial C x0 x1 x2 x3 := by kernel_rfl
theorem laws_FnExactRangePartial_calls {R : Value → World → Prop} {w : World} (x0 : Array Value) (x1 : Array Value) (x2 : ByteArray) (x3 : ByteArray) (h : (laws_FnExactRangePartial (real Tryz.prog R) x0 x1 x2 x3 : World → Prop) w) :
    Calls Tryz.prog n_laws_FnExactRangePartial [(.agg x0), (.agg x1), (.string x2), (.string x3)].toArray w fun e w' => ∃ v, e = .returned v ∧ R v w' := fT_sound mixed { loop := [], join := [(28, [(10, .slice), (11, .ptr), (12, (.int .i64))]), (34, [(14, .slice), (15, .ptr), (16, (.int .i64))]), (213, []), (228, []), (294, []), (85, [(20, .slice), (21, .ptr), (22, (.int .i64))]), (405, [])], anyOrder := [9, 11, 14, 28], pure := [] } (by rw [laws_FnExactRangePartial_eq]; exact h)

/-- laws.szStore (11) -/
def laws_szStore (C : Comb) (x0 : Array Value) (x1 : Int) : C.St :=
  C.new ty_laws_Store (.agg x0) fun b2 =>
  C.ld .slice 1 ((Addr.mk b2 0 none).add 0) fun v6 =>
  C.call n_laws_szBlobS [(.slice v6.a v6.n v6.c), (.int .i64 x1)] [(.int .i64)] fun r8 =>
  cond (decide (r8 < 0)) (
    C.ret (.int .i64 (-1))
  ) (
    C.ret (.int .i64 r8)
  )
theorem laws_szStore_eq (C : Comb) (x0 : Array Value) (x1 : Int) : fT C Tryz.prog { loop := [], join := [], anyOrder := [], pure := [] } n_laws_szStore [(.agg x0), (.int .i64 x1)] = laws_szStore C x0 x1 := by kernel_rfl
theorem laws_szStore_calls {R : Value → World → Prop} {w : World} (x0 : Array Value) (x1 : Int) (h : (laws_szStore (real Tryz.prog R) x0 x1 : World → Prop) w) :
    Calls Tryz.prog n_laws_szStore [(.agg x0), (.int .i64 x1)].toArray w fun e w' => ∃ v, e = .returned v ∧ R v w' := fT_sound mixed { loop := [], join := [], anyOrder := [], pure := [] } (by rw [laws_szStore_eq]; exact h)

/-- spec.ChunkPartial (12) -/
def spec_ChunkPartial (C : Comb) (x0 : Array Value) (x1 : Array Value) (x2 : Int) (x3 : Int) : C.St :=
  C.new ty_impl_Store (.agg x0) fun b4 =>
  C.new ty_impl_Key (.agg x1) fun b5 =>
  C.new ty_impl_Key (.agg (Array.replicate 32 (.int .u8 0))) fun b9 =>
  C.call n_spec_l05Open [(.pointer (some (Addr.mk b4 0 none)))] [.optr, .bool] fun r18 =>
  cond (!r18.2) (
    C.sem (Instr.buildSlice ty_sl_uint8 0 #[]) .slice fun y23 =>
    C.st 32 (Addr.mk b9 0 none) (.agg (Array.replicate 32 (.int .u8 0))) <|
    C.ld .agg 32 (Addr.mk b9 0 none) fun z6 =>
    C.ret (.tuple #[(.slice y23.a y23.n y23.c), (.agg z6), (.int .i64 1)])
  ) (
    C.call n_spec_l08Leaf [(.int .i64 x2), (.int .i64 x3)] [.bool] fun r27 =>
    cond (!r27) (
      C.sem (Instr.buildSlice ty_sl_uint8 0 #[]) .slice fun y29 =>
      C.st 32 (Addr.mk b9 0 none) (.agg (Array.replicate 32 (.int .u8 0))) <|
      C.ld .agg 32 (Addr.mk b9 0 none) fun z9 =>
      C.ret (.tuple #[(.slice y29.a y29.n y29.c), (.agg z9), (.int .i64 2)])
    ) (
      C.ld .agg 32 (Addr.mk b5 0 none) fun v33 =>
      C.call n_spec_l08Chunk [(.pointer r18.1), (.agg v33), (.int .i64 x2), (.int .i64 x3)] [.slice, .slice, .agg, (.int .i64)] fun r36 =>
      C.new ty_impl_Key (.agg (Array.replicate 32 (.int .u8 0))) fun b15 =>
      C.st 32 (Addr.mk b15 0 none) (.agg r36.2.2.1) <|
      C.draw <|
      C.ld .agg 32 (Addr.mk b15 0 none) fun v42 =>
      C.st 32 (Addr.mk b9 0 none) (.agg v42) <|
      C.ld .agg 32 (Addr.mk b9 0 none) fun z14 =>
      C.ret (.tuple #[(.slice r36.1.a r36.1.n r36.1.c), (.agg z14), (.int .i64 r36.2.2.2)])
    )
  )
theorem spec_ChunkPartial_eq (C : Comb) (x0 : Array Value) (x1 : Array Value) (x2 : Int) (x3 : Int) : fT C Tryz.prog { loop := [], join := [], anyOrder := [7], pure := [] } n_spec_ChunkPartial [(.agg x0), (.agg x1), (.int .i64 x2), (.int .i64 x3)] = spec_ChunkPartial C x0 x1 x2 x3 := by kernel_rfl
theorem spec_ChunkPartial_calls {R : Value → World → Prop} {w : World} (x0 : Array Value) (x1 : Array Value) (x2 : Int) (x3 : Int) (h : (spec_ChunkPartial (real Tryz.prog R) x0 x1 x2 x3 : World → Prop) w) :
    Calls Tryz.prog n_spec_ChunkPartial [(.agg x0), (.agg x1), (.int .i64 x2), (.int .i64 x3)].toArray w fun e w' => ∃ v, e = .returned v ∧ R v w' := fT_sound mixed { loop := [], join := [], anyOrder := [7], pure := [] } (by rw [spec_ChunkPartial_eq]; exact h)

/-- laws.toStore (13) -/
def laws_toStore (C : Comb) (x0 : Array Value) : C.St :=
  C.new ty_laws_Store (.agg x0) fun b1 =>
  C.new ty_impl_Store (.agg (#[(.slice none 0 0)])) fun b2 =>
  C.new ty_impl_Store (.agg (#[(.slice none 0 0)])) fun b3 =>
  C.ld .slice 1 ((Addr.mk b1 0 none).add 0) fun v5 =>
  C.call n_laws_toBlobS [(.slice v5.a v5.n v5.c)] [.slice] fun r6 =>
  C.st 1 ((Addr.mk b3 0 none).add 0) (.slice r6.a r6.n r6.c) <|
  C.ld .agg 1 (Addr.mk b3 0 none) fun v8 =>
  C.st 1 (Addr.mk b2 0 none) (.agg v8) <|
  C.ld .agg 1 (Addr.mk b2 0 none) fun z7 =>
  C.ret (.agg z7)
theorem laws_toStore_eq (C : Comb) (x0 : Array Value) : fT C Tryz.prog { loop := [], join := [], anyOrder := [], pure := [] } n_laws_toStore [(.agg x0)] = laws_toStore C x0 := by kernel_rfl
theorem laws_toStore_calls {R : Value → World → Prop} {w : World} (x0 : Array Value) (h : (laws_toStore (real Tryz.prog R) x0 : World → Prop) w) :
    Calls Tryz.prog n_laws_toStore [(.agg x0)].toArray w fun e w' => ∃ v, e = .returned v ∧ R v w' := fT_sound mixed { loop := [], join := [], anyOrder := [], pure := [] } (by rw [laws_toStore_eq]; exact h)

/-- laws.toKey (14) -/
def laws_toKey (C : Comb) (x0 : Array Value) : C.St :=
  C.new ty_arr32_uint8 (.agg x0) fun b1 =>
  C.new ty_impl_Key (.agg (Array.replicate 32 (.int .u8 0))) fun b2 =>
  C.new ty_impl_Key (.agg (Array.replicate 32 (.int .u8 0))) fun b3 =>
  C.loop (TL [(.int .i64)]) (embL [(.int .i64)]) [(.int .i64 0)] fun s4 ct4 => C.any fun _ =>
  cond (decide (s4 < 32)) (
    C.ix (some (Addr.mk b1 0 none)) 32 1 s4 fun p11 =>
    C.ld (.int .u8) 1 p11 fun v12 =>
    C.ix (some (Addr.mk b3 0 none)) 32 1 s4 fun p13 =>
    C.st 1 p13 (.int .u8 v12) <|
    ct4 [(.int .i64 (IntKind.wrap .i64 (s4 + 1)))]
  ) (
    C.ld .agg 32 (Addr.mk b3 0 none) fun v14 =>
    C.st 32 (Addr.mk b2 0 none) (.agg v14) <|
    C.ld .agg 32 (Addr.mk b2 0 none) fun z9 =>
    C.ret (.agg z9)
  )
theorem laws_toKey_eq (C : Comb) (x0 : Array Value) : fT C Tryz.prog { loop := [(3, [(4, (.int .i64))])], join := [], anyOrder := [], pure := [] } n_laws_toKey [(.agg x0)] = laws_toKey C x0 := by kernel_rfl
theorem laws_toKey_calls {R : Value → World → Prop} {w : World} (x0 : Array Value) (h : (laws_toKey (real Tryz.prog R) x0 : World → Prop) w) :
    Calls Tryz.prog n_laws_toKey [(.agg x0)].toArray w fun e w' => ∃ v, e = .returned v ∧ R v w' := fT_sound mixed { loop := [(3, [(4, (.int .i64))])], join := [], anyOrder := [], pure := [] } (by rw [laws_toKey_eq]; exact h)

/-- impl.ChunkPartial (15) -/
def impl_ChunkPartial (C : Comb) (x0 : Array Value) (x1 : Array Value) (x2 : Int) (x3 : Int) : C.St :=
  C.new ty_impl_Store (.agg x0) fun b4 =>
  C.new ty_impl_Key (.agg x1) fun b5 =>
  C.new ty_impl_Key (.agg (Array.replicate 32 (.int .u8 0))) fun b9 =>
  C.ld .agg 1 (Addr.mk b4 0 none) fun v17 =>
  C.call n_impl_openChunk [(.agg v17), (.int .i64 x2), (.int .i64 x3)] [.optr, (.int .i64)] fun r20 =>
  cond (r20.2 != 0) (
    C.st 32 (Addr.mk b9 0 none) (.agg (Array.replicate 32 (.int .u8 0))) <|
    C.ld .agg 32 (Addr.mk b9 0 none) fun z6 =>
    C.ret (.tuple #[(.slice none 0 0), (.agg z6), (.int .i64 r20.2)])
  ) (
    C.ld .agg 32 (Addr.mk b5 0 none) fun v29 =>
    C.call n_ptr_impl_shop_chunk [(.pointer r20.1), (.agg v29), (.int .i64 x2), (.int .i64 x3)] [.slice, .slice, .agg, (.int .i64)] fun r32 =>
    C.new ty_impl_Key (.agg (Array.replicate 32 (.int .u8 0))) fun b15 =>
    C.st 32 (Addr.mk b15 0 none) (.agg r32.2.2.1) <|
    C.draw <|
    C.ld .agg 32 (Addr.mk b15 0 none) fun v38 =>
    C.st 32 (Addr.mk b9 0 none) (.agg v38) <|
    C.ld .agg 32 (Addr.mk b9 0 none) fun z11 =>
    C.ret (.tuple #[(.slice r32.1.a r32.1.n r32.1.c), (.agg z11), (.int .i64 r32.2.2.2)])
  )
theorem impl_ChunkPartial_eq (C : Comb) (x0 : Array Value) (x1 : Array Value) (x2 : Int) (x3 : Int) : fT C Tryz.prog { loop := [], join := [], anyOrder := [5], pure := [] } n_impl_ChunkPartial [(.agg x0), (.agg x1), (.int .i64 x2), (.int .i64 x3)] = impl_ChunkPartial C x0 x1 x2 x3 := by kernel_rfl
theorem impl_ChunkPartial_calls {R : Value → World → Prop} {w : World} (x0 : Array Value) (x1 : Array Value) (x2 : Int) (x3 : Int) (h : (impl_ChunkPartial (real Tryz.prog R) x0 x1 x2 x3 : World → Prop) w) :
    Calls Tryz.prog n_impl_ChunkPartial [(.agg x0), (.agg x1), (.int .i64 x2), (.int .i64 x3)].toArray w fun e w' => ∃ v, e = .returned v ∧ R v w' := fT_sound mixed { loop := [], join := [], anyOrder := [5], pure := [] } (by rw [impl_ChunkPartial_eq]; exact h)

/-- laws.eqByteS (16) -/
def laws_eqByteS (C : Comb) (x0 : Sl) (x1 : Sl) : C.St :=
  cond ((x0.n : Int) != (x1.n : Int)) (
    C.ret (.bool false)
  ) (
    C.loop (TL [(.int .i64)]) (embL [(.int .i64)]) [(.int .i64 0)] fun s1 ct1 => C.any fun _ =>
    cond (decide (s1 < (x0.n : Int))) (
      C.draw <|
      C.ix x0.a x0.n 1 s1 fun p19 =>
      C.ld (.int .u8) 1 p19 fun v20 =>
      C.ix x1.a x1.n 1 s1 fun p23 =>
      C.ld (.int .u8) 1 p23 fun v24 =>
      cond (v20 != v24) (
        C.ret (.bool false)
      ) (
        ct1 [(.int .i64 (IntKind.wrap .i64 (s1 + 1)))]
      )
    ) (
      C.ret (.bool true)
    )
  )
theorem laws_eqByteS_eq (C : Comb) (x0 : Sl) (x1 : Sl) : fT C Tryz.prog { loop := [(4, [(5, (.int .i64))])], join := [], anyOrder := [], pure := [] } n_laws_eqByteS [(.slice x0.a x0.n x0.c), (.slice x1.a x1.n x1.c)] = laws_eqByteS C x0 x1 := by kernel_rfl
theorem laws_eqByteS_calls {R : Value → World → Prop} {w : World} (x0 : Sl) (x1 : Sl) (h : (laws_eqByteS (real Tryz.prog R) x0 x1 : World → Prop) w) :
    Calls Tryz.prog n_laws_eqByteS [(.slice x0.a x0.n x0.c), (.slice x1.a x1.n x1.c)].toArray w fun e w' => ∃ v, e = .returned v ∧ R v w' := fT_sound mixed { loop := [(4, [(5, (.int .i64))])], join := [], anyOrder := [], pure := [] } (by rw [laws_eqByteS_eq]; exact h)

/-- laws.eqKey (17) -/
def laws_eqKey (C : Comb) (x0 : Array Value) (x1 : Array Value) : C.St :=
  C.new ty_impl_Key (.agg x0) fun b2 =>
  C.new ty_impl_Key (.agg x1) fun b3 =>
  C.loop (TL [(.int .i64)]) (embL [(.int .i64)]) [(.int .i64 0)] fun s3 ct3 => C.any fun _ =>
  cond (decide (s3 < 32)) (
    C.draw <|
    C.ix (some (Addr.mk b2 0 none)) 32 1 s3 fun p11 =>
    C.ld (.int .u8) 1 p11 fun v12 =>
    C.ix (some (Addr.mk b3 0 none)) 32 1 s3 fun p14 =>
    C.ld (.int .u8) 1 p14 fun v15 =>
    cond (v12 != v15) (
      C.ret (.bool false)
    ) (
      ct3 [(.int .i64 (IntKind.wrap .i64 (s3 + 1)))]
    )
  ) (
    C.ret (.bool true)
  )
theorem laws_eqKey_eq (C : Comb) (x0 : Array Value) (x1 : Array Value) : fT C Tryz.prog { loop := [(2, [(5, (.int .i64))])], join := [], anyOrder := [], pure := [] } n_laws_eqKey [(.agg x0), (.agg x1)] = laws_eqKey C x0 x1 := by kernel_rfl
theorem laws_eqKey_calls {R : Value → World → Prop} {w : World} (x0 : Array Value) (x1 : Array Value) (h : (laws_eqKey (real Tryz.prog R) x0 x1 : World → Prop) w) :
    Calls Tryz.prog n_laws_eqKey [(.agg x0), (.agg x1)].toArray w fun e w' => ∃ v, e = .returned v ∧ R v w' := fT_sound mixed { loop := [(2, [(5, (.int .i64))])], join := [], anyOrder := [], pure := [] } (by rw [laws_eqKey_eq]; exact h)

/-- laws.eqStore (18) -/
def laws_eqStore (C : Comb) (x0 : Array Value) (x1 : Array Value) : C.St :=
  C.new ty_impl_Store (.agg x0) fun b2 =>
  C.new ty_impl_Store (.agg x1) fun b3 =>
  C.ld .slice 1 ((Addr.mk b2 0 none).add 0) fun v6 =>
  C.ld .slice 1 ((Addr.mk b3 0 none).add 0) fun v8 =>
  C.call n_laws_eqBlobS [(.slice v6.a v6.n v6.c), (.slice v8.a v8.n v8.c)] [.bool] fun r9 =>
  cond (!r9) (
    C.ret (.bool false)
  ) (
    C.ret (.bool true)
  )
theorem laws_eqStore_eq (C : Comb) (x0 : Array Value) (x1 : Array Value) : fT C Tryz.prog { loop := [], join := [], anyOrder := [], pure := [] } n_laws_eqStore [(.agg x0), (.agg x1)] = laws_eqStore C x0 x1 := by kernel_rfl
theorem laws_eqStore_calls {R : Value → World → Prop} {w : World} (x0 : Array Value) (x1 : Array Value) (h : (laws_eqStore (real Tryz.prog R) x0 x1 : World → Prop) w) :
    Calls Tryz.prog n_laws_eqStore [(.agg x0), (.agg x1)].toArray w fun e w' => ∃ v, e = .returned v ∧ R v w' := fT_sound mixed { loop := [], join := [], anyOrder := [], pure := [] } (by rw [laws_eqStore_eq]; exact h)

/-- laws.markStore (19) -/
def laws_markStore (C : Comb) (x0 : Array Value) (x1 : Int) : C.St :=
  C.new ty_impl_Store (.agg x0) fun b2 =>
  C.ld .slice 1 ((Addr.mk b2 0 none).add 0) fun v6 =>
  C.call n_laws_markBlobS [(.slice v6.a v6.n v6.c), (.int .i64 x1)] [(.int .i64)] fun r8 =>
  C.ret (.int .i64 r8)
theorem laws_markStore_eq (C : Comb) (x0 : Array Value) (x1 : Int) : fT C Tryz.prog { loop := [], join := [], anyOrder := [], pure := [] } n_laws_markStore [(.agg x0), (.int .i64 x1)] = laws_markStore C x0 x1 := by kernel_rfl
theorem laws_markStore_calls {R : Value → World → Prop} {w : World} (x0 : Array Value) (x1 : Int) (h : (laws_markStore (real Tryz.prog R) x0 x1 : World → Prop) w) :
    Calls Tryz.prog n_laws_markStore [(.agg x0), (.int .i64 x1)].toArray w fun e w' => ∃ v, e = .returned v ∧ R v w' := fT_sound mixed { loop := [], join := [], anyOrder := [], pure := [] } (by rw [laws_markStore_eq]; exact h)

/-- laws.markByteS (20) -/
def laws_markByteS (C : Comb) (x0 : Sl) (x1 : Int) : C.St :=
  C.loop (TL [(.int .i64), (.int .i64)]) (embL [(.int .i64), (.int .i64)]) [(.int .i64 x1), (.int .i64 0)] fun s1 ct1 => C.any fun _ =>
  cond (decide (s1.2 < (x0.n : Int))) (
    C.ix x0.a x0.n 1 s1.2 fun p16 =>
    C.st 1 p16 (.int .u8 (IntKind.wrap .u8 (s1.1))) <|
    ct1 [(.int .i64 (IntKind.wrap .i64 (s1.1 + 1))), (.int .i64 (IntKind.wrap .i64 (s1.2 + 1)))]
  ) (
    C.ret (.int .i64 s1.1)
  )
theorem laws_markByteS_eq (C : Comb) (x0 : Sl) (x1 : Int) : fT C Tryz.prog { loop := [(2, [(1, (.int .i64)), (5, (.int .i64))])], join := [], anyOrder := [], pure := [] } n_laws_markByteS [(.slice x0.a x0.n x0.c), (.int .i64 x1)] = laws_markByteS C x0 x1 := by kernel_rfl
theorem laws_markByteS_calls {R : Value → World → Prop} {w : World} (x0 : Sl) (x1 : Int) (h : (laws_markByteS (real Tryz.prog R) x0 x1 : World → Prop) w) :
    Calls Tryz.prog n_laws_markByteS [(.slice x0.a x0.n x0.c), (.int .i64 x1)].toArray w fun e w' => ∃ v, e = .returned v ∧ R v w' := fT_sound mixed { loop := [(2, [(1, (.int .i64)), (5, (.int .i64))])], join := [], anyOrder := [], pure := [] } (by rw [laws_markByteS_eq]; exact h)

/-- laws.heldByteS (21) -/
def laws_heldByteS (C : Comb) (x0 : Sl) (x1 : Int) : C.St :=
  C.loop (TL [(.int .i64), (.int .i64)]) (embL [(.int .i64), (.int .i64)]) [(.int .i64 x1), (.int .i64 0)] fun s1 ct1 => C.any fun _ =>
  cond (decide (s1.2 < (x0.n : Int))) (
    C.ix x0.a x0.n 1 s1.2 fun p14 =>
    C.ld (.int .u8) 1 p14 fun v15 =>
    cond (v15 != (IntKind.wrap .u8 (s1.1))) (
      C.ret (.int .i64 (-1))
    ) (
      ct1 [(.int .i64 (IntKind.wrap .i64 (s1.1 + 1))), (.int .i64 (IntKind.wrap .i64 (s1.2 + 1)))]
    )
  ) (
    C.ret (.int .i64 s1.1)
  )
theorem laws_heldByteS_eq (C : Comb) (x0 : Sl) (x1 : Int) : fT C Tryz.prog { loop := [(2, [(1, (.int .i64)), (5, (.int .i64))])], join := [], anyOrder := [], pure := [] } n_laws_heldByteS [(.slice x0.a x0.n x0.c), (.int .i64 x1)] = laws_heldByteS C x0 x1 := by kernel_rfl
theorem laws_heldByteS_calls {R : Value → World → Prop} {w : World} (x0 : Sl) (x1 : Int) (h : (laws_heldByteS (real Tryz.prog R) x0 x1 : World → Prop) w) :
    Calls Tryz.prog n_laws_heldByteS [(.slice x0.a x0.n x0.c), (.int .i64 x1)].toArray w fun e w' => ∃ v, e = .returned v ∧ R v w' := fT_sound mixed { loop := [(2, [(1, (.int .i64)), (5, (.int .i64))])], join := [], anyOrder := [], pure := [] } (by rw [laws_heldByteS_eq]; exact h)

/-- spec.ListProofFromCopy (22) -/
def spec_ListProofFromCopy (C : Comb) (x0 : Array Value) (x1 : Array Value) (x2 : Int) (x3 : Int) : C.St :=
  C.new ty_impl_Store (.agg x0) fun b4 =>
  C.new ty_impl_Key (.agg x1) fun b5 =>
  C.new ty_impl_Key (.agg (Array.replicate 32 (.int .u8 0))) fun b9 =>
  C.call n_spec_l05Open [(.pointer (some (Addr.mk b4 0 none)))] [.optr, .bool] fun r18 =>
  cond (!r18.2) (
    C.sem (Instr.buildSlice ty_sl_impl_Key 0 #[]) .slice fun y23 =>
    C.st 32 (Addr.mk b9 0 none) (.agg (Array.replicate 32 (.int .u8 0))) <|
    C.ld .agg 32 (Addr.mk b9 0 none) fun z6 =>
    C.ret (.tuple #[(.slice y23.a y23.n y23.c), (.agg z6), (.int .i64 1)])
  ) (
    C.call n_spec_l08Leaf [(.int .i64 x2), (.int .i64 x3)] [.bool] fun r27 =>
    cond (!r27) (
      C.sem (Instr.buildSlice ty_sl_impl_Key 0 #[]) .slice fun y29 =>
      C.st 32 (Addr.mk b9 0 none) (.agg (Array.replicate 32 (.int .u8 0))) <|
      C.ld .agg 32 (Addr.mk b9 0 none) fun z9 =>
      C.ret (.tuple #[(.slice y29.a y29.n y29.c), (.agg z9), (.int .i64 2)])
    ) (
      C.ld .agg 32 (Addr.mk b5 0 none) fun v33 =>
      C.call n_spec_l08Chunk [(.pointer r18.1), (.agg v33), (.int .i64 x2), (.int .i64 x3)] [.slice, .slice, .agg, (.int .i64)] fun r36 =>
      C.new ty_impl_Key (.agg (Array.replicate 32 (.int .u8 0))) fun b15 =>
      C.st 32 (Addr.mk b15 0 none) (.agg r36.2.2.1) <|
      C.draw <|
      C.ld .agg 32 (Addr.mk b15 0 none) fun v42 =>
      C.st 32 (Addr.mk b9 0 none) (.agg v42) <|
      C.ld .agg 32 (Addr.mk b9 0 none) fun z14 =>
      C.ret (.tuple #[(.slice r36.2.1.a r36.2.1.n r36.2.1.c), (.agg z14), (.int .i64 r36.2.2.2)])
    )
  )
theorem spec_ListProofFromCopy_eq (C : Comb) (x0 : Array Value) (x1 : Array Value) (x2 : Int) (x3 : Int) : fT C Tryz.prog { loop := [], join := [], anyOrder := [7], pure := [] } n_spec_ListProofFromCopy [(.agg x0), (.agg x1), (.int .i64 x2), (.int .i64 x3)] = spec_ListProofFromCopy C x0 x1 x2 x3 := by kernel_rfl
theorem spec_ListProofFromCopy_calls {R : Value → World → Prop} {w : World} (x0 : Array Value) (x1 : Array Value) (x2 : Int) (x3 : Int) (h : (spec_ListProofFromCopy (real Tryz.prog R) x0 x1 x2 x3 : World → Prop) w) :
    Calls Tryz.prog n_spec_ListProofFromCopy [(.agg x0), (.agg x1), (.int .i64 x2), (.int .i64 x3)].toArray w fun e w' => ∃ v, e = .returned v ∧ R v w' := fT_sound mixed { loop := [], join := [], anyOrder := [7], pure := [] } (by rw [spec_ListProofFromCopy_eq]; exact h)

/-- impl.ListProofFromCopy (23) -/
def impl_ListProofFromCopy (C : Comb) (x0 : Array Value) (x1 : Array Value) (x2 : Int) (x3 : Int) : C.St :=
  C.new ty_impl_Store (.agg x0) fun b4 =>
  C.new ty_impl_Key (.agg x1) fun b5 =>
  C.new ty_impl_Key (.agg (Array.replicate 32 (.int .u8 0))) fun b9 =>
  C.ld .agg 1 (Addr.mk b4 0 none) fun v17 =>
  C.call n_impl_openChunk [(.agg v17), (.int .i64 x2), (.int .i64 x3)] [.optr, (.int .i64)] fun r20 =>
  cond (r20.2 != 0) (
    C.st 32 (Addr.mk b9 0 none) (.agg (Array.replicate 32 (.int .u8 0))) <|
    C.ld .agg 32 (Addr.mk b9 0 none) fun z6 =>
    C.ret (.tuple #[(.slice none 0 0), (.agg z6), (.int .i64 r20.2)])
  ) (
    C.ld .agg 32 (Addr.mk b5 0 none) fun v29 =>
    C.call n_ptr_impl_shop_chunk [(.pointer r20.1), (.agg v29), (.int .i64 x2), (.int .i64 x3)] [.slice, .slice, .agg, (.int .i64)] fun r32 =>
    C.new ty_impl_Key (.agg (Array.replicate 32 (.int .u8 0))) fun b15 =>
    C.st 32 (Addr.mk b15 0 none) (.agg r32.2.2.1) <|
    C.draw <|
    C.ld .agg 32 (Addr.mk b15 0 none) fun v38 =>
    C.st 32 (Addr.mk b9 0 none) (.agg v38) <|
    C.ld .agg 32 (Addr.mk b9 0 none) fun z11 =>
    C.ret (.tuple #[(.slice r32.2.1.a r32.2.1.n r32.2.1.c), (.agg z11), (.int .i64 r32.2.2.2)])
  )
theorem impl_ListProofFromCopy_eq (C : Comb) (x0 : Array Value) (x1 : Array Value) (x2 : Int) (x3 : Int) : fT C Tryz.prog { loop := [], join := [], anyOrder := [5], pure := [] } n_impl_ListProofFromCopy [(.agg x0), (.agg x1), (.int .i64 x2), (.int .i64 x3)] = impl_ListProofFromCopy C x0 x1 x2 x3 := by kernel_rfl
theorem impl_ListProofFromCopy_calls {R : Value → World → Prop} {w : World} (x0 : Array Value) (x1 : Array Value) (x2 : Int) (x3 : Int) (h : (impl_ListProofFromCopy (real Tryz.prog R) x0 x1 x2 x3 : World → Prop) w) :
    Calls Tryz.prog n_impl_ListProofFromCopy [(.agg x0), (.agg x1), (.int .i64 x2), (.int .i64 x3)].toArray w fun e w' => ∃ v, e = .returned v ∧ R v w' := fT_sound mixed { loop := [], join := [], anyOrder := [5], pure := [] } (by rw [impl_ListProofFromCopy_eq]; exact h)

/-- laws.eqKeyS (24) -/
def laws_eqKeyS (C : Comb) (x0 : Sl) (x1 : Sl) : C.St :=
  cond ((x0.n : Int) != (x1.n : Int)) (
    C.ret (.bool false)
  ) (
    C.loop (TL [(.int .i64)]) (embL [(.int .i64)]) [(.int .i64 0)] fun s1 ct1 => C.any fun _ =>
    cond (decide (s1 < (x0.n : Int))) (
      C.draw <|
      C.ix x0.a x0.n 32 s1 fun p19 =>
      C.ld .agg 32 p19 fun v20 =>
      C.ix x1.a x1.n 32 s1 fun p23 =>
      C.ld .agg 32 p23 fun v24 =>
      C.call n_laws_eqKey [(.agg v20), (.agg v24)] [.bool] fun r25 =>
      cond (!r25) (
        C.ret (.bool false)
      ) (
        ct1 [(.int .i64 (IntKind.wrap .i64 (s1 + 1)))]
      )
    ) (
      C.ret (.bool true)
    )
  )
theorem laws_eqKeyS_eq (C : Comb) (x0 : Sl) (x1 : Sl) : fT C Tryz.prog { loop := [(4, [(5, (.int .i64))])], join := [], anyOrder := [6], pure := [] } n_laws_eqKeyS [(.slice x0.a x0.n x0.c), (.slice x1.a x1.n x1.c)] = laws_eqKeyS C x0 x1 := by kernel_rfl
theorem laws_eqKeyS_calls {R : Value → World → Prop} {w : World} (x0 : Sl) (x1 : Sl) (h : (laws_eqKeyS (real Tryz.prog R) x0 x1 : World → Prop) w) :
    Calls Tryz.prog n_laws_eqKeyS [(.slice x0.a x0.n x0.c), (.slice x1.a x1.n x1.c)].toArray w fun e w' => ∃ v, e = .returned v ∧ R v w' := fT_sound mixed { loop := [(4, [(5, (.int .i64))])], join := [], anyOrder := [6], pure := [] } (by rw [laws_eqKeyS_eq]; exact h)

/-- laws.markKeyS (25) -/
def laws_markKeyS (C : Comb) (x0 : Sl) (x1 : Int) : C.St :=
  C.loop (TL [(.int .i64), (.int .i64)]) (embL [(.int .i64), (.int .i64)]) [(.int .i64 x1), (.int .i64 0)] fun s1 ct1 => C.any fun _ =>
  cond (decide (s1.2 < (x0.n : Int))) (
    C.loop (TL [(.int .i64), (.int .i64)]) (embL [(.int .i64), (.int .i64)]) [(.int .i64 s1.1), (.int .i64 0)] fun s2 ct2 => C.any fun _ =>
    cond (decide (s2.2 < 32)) (
      C.ix x0.a x0.n 32 s1.2 fun p22 =>
      C.ix (some p22) 32 1 s2.2 fun p23 =>
      C.st 1 p23 (.int .u8 (IntKind.wrap .u8 (s2.1))) <|
      ct2 [(.int .i64 (IntKind.wrap .i64 (s2.1 + 1))), (.int .i64 (IntKind.wrap .i64 (s2.2 + 1)))]
    ) (
      ct1 [(.int .i64 s2.1), (.int .i64 (IntKind.wrap .i64 (s1.2 + 1)))]
    )
  ) (
    C.ret (.int .i64 s1.1)
  )
theorem laws_markKeyS_eq (C : Comb) (x0 : Sl) (x1 : Int) : fT C Tryz.prog { loop := [(2, [(1, (.int .i64)), (5, (.int .i64))]), (5, [(1, (.int .i64)), (6, (.int .i64))])], join := [], anyOrder := [], pure := [] } n_laws_markKeyS [(.slice x0.a x0.n x0.c), (.int .i64 x1)] = laws_markKeyS C x0 x1 := by kernel_rfl
theorem laws_markKeyS_calls {R : Value → World → Prop} {w : World} (x0 : Sl) (x1 : Int) (h : (laws_markKeyS (real Tryz.prog R) x0 x1 : World → Prop) w) :
    Calls Tryz.prog n_laws_markKeyS [(.slice x0.a x0.n x0.c), (.int .i64 x1)].toArray w fun e w' => ∃ v, e = .returned v ∧ R v w' := fT_sound mixed { loop := [(2, [(1, (.int .i64)), (5, (.int .i64))]), (5, [(1, (.int .i64)), (6, (.int .i64))])], join := [], anyOrder := [], pure := [] } (by rw [laws_markKeyS_eq]; exact h)

/-- laws.heldKeyS (26) -/
def laws_heldKeyS (C : Comb) (x0 : Sl) (x1 : Int) : C.St :=
  C.loop (TL [(.int .i64), (.int .i64)]) (embL [(.int .i64), (.int .i64)]) [(.int .i64 x1), (.int .i64 0)] fun s1 ct1 => C.any fun _ =>
  cond (decide (s1.2 < (x0.n : Int))) (
    C.loop (TL [(.int .i64), (.int .i64)]) (embL [(.int .i64), (.int .i64)]) [(.int .i64 s1.1), (.int .i64 0)] fun s2 ct2 => C.any fun _ =>
    cond (decide (s2.2 < 32)) (
      C.ix x0.a x0.n 32 s1.2 fun p20 =>
      C.ix (some p20) 32 1 s2.2 fun p21 =>
      C.ld (.int .u8) 1 p21 fun v22 =>
      cond (v22 != (IntKind.wrap .u8 (s2.1))) (
        C.ret (.int .i64 (-1))
      ) (
        ct2 [(.int .i64 (IntKind.wrap .i64 (s2.1 + 1))), (.int .i64 (IntKind.wrap .i64 (s2.2 + 1)))]
      )
    ) (
      ct1 [(.int .i64 s2.1), (.int .i64 (IntKind.wrap .i64 (s1.2 + 1)))]
    )
  ) (
    C.ret (.int .i64 s1.1)
  )
theorem laws_heldKeyS_eq (C : Comb) (x0 : Sl) (x1 : Int) : fT C Tryz.prog { loop := [(2, [(1, (.int .i64)), (5, (.int .i64))]), (5, [(1, (.int .i64)), (6, (.int .i64))])], join := [], anyOrder := [], pure := [] } n_laws_heldKeyS [(.slice x0.a x0.n x0.c), (.int .i64 x1)] = laws_heldKeyS C x0 x1 := by kernel_rfl
theorem laws_heldKeyS_calls {R : Value → World → Prop} {w : World} (x0 : Sl) (x1 : Int) (h : (laws_heldKeyS (real Tryz.prog R) x0 x1 : World → Prop) w) :
    Calls Tryz.prog n_laws_heldKeyS [(.slice x0.a x0.n x0.c), (.int .i64 x1)].toArray w fun e w' => ∃ v, e = .returned v ∧ R v w' := fT_sound mixed { loop := [(2, [(1, (.int .i64)), (5, (.int .i64))]), (5, [(1, (.int .i64)), (6, (.int .i64))])], join := [], anyOrder := [], pure := [] } (by rw [laws_heldKeyS_eq]; exact h)

/-- spec.LoadList (27) -/
def spec_LoadList (C : Comb) (x0 : Array Value) (x1 : Array Value) (x2 : Int) : C.St :=
  C.new ty_impl_Store (.agg x0) fun b3 =>
  C.new ty_impl_Key (.agg x1) fun b4 =>
  C.new ty_impl_Key (.agg (Array.replicate 32 (.int .u8 0))) fun b7 =>
  C.call n_spec_l05Open [(.pointer (some (Addr.mk b3 0 none)))] [.optr, .bool] fun r13 =>
  cond (!r13.2) (
    C.sem (Instr.buildSlice ty_sl_sl_uint8 0 #[]) .slice fun y18 =>
    C.st 32 (Addr.mk b7 0 none) (.agg (Array.replicate 32 (.int .u8 0))) <|
    C.ld .agg 32 (Addr.mk b7 0 none) fun z6 =>
    C.ret (.tuple #[(.slice y18.a y18.n y18.c), (.agg z6), (.int .i64 1)])
  ) (
    C.call n_spec_l00In [(.int .i64 x2), (.int .i64 0), (.int .i64 256)] [.bool] fun r21 =>
    cond (!r21) (
      C.sem (Instr.buildSlice ty_sl_sl_uint8 0 #[]) .slice fun y23 =>
      C.st 32 (Addr.mk b7 0 none) (.agg (Array.replicate 32 (.int .u8 0))) <|
      C.ld .agg 32 (Addr.mk b7 0 none) fun z9 =>
      C.ret (.tuple #[(.slice y23.a y23.n y23.c), (.agg z9), (.int .i64 2)])
    ) (
      C.sem (Instr.buildSlice ty_sl_sl_uint8 0 #[]) .slice fun y26 =>
      C.pur (Instr.build ty_spec_l05Leaves #[(0, (.pointer r13.1)), (1, (.slice y26.a y26.n y26.c))]) .agg fun y27 =>
      C.new ty_spec_l05Leaves (.agg y27) fun b28 =>
      C.ld .agg 32 (Addr.mk b4 0 none) fun v30 =>
      C.call n_ptr_spec_l05Leaves_tree [(.pointer (some (Addr.mk b28 0 none))), (.agg v30), (.int .i64 x2)] [] fun r32 =>
      C.ld (.int .i64) 1 ((Addr.mk b28 0 none).add 34) fun v36 =>
      cond (v36 != 0) (
        C.draw <|
        C.ld .agg 32 ((Addr.mk b28 0 none).add 2) fun v42 =>
        C.ld (.int .i64) 1 ((Addr.mk b28 0 none).add 34) fun v46 =>
        C.sem (Instr.buildSlice ty_sl_sl_uint8 0 #[]) .slice fun y38 =>
        C.chk [⟨8, 1, ((Addr.mk b28 0 none).add 34), (.int .i64), v46⟩, ⟨4, 32, ((Addr.mk b28 0 none).add 2), .agg, v42⟩] <|
        C.st 32 (Addr.mk b7 0 none) (.agg v42) <|
        C.chk [⟨8, 1, ((Addr.mk b28 0 none).add 34), (.int .i64), v46⟩] <|
        C.ld .agg 32 (Addr.mk b7 0 none) fun z19 =>
        C.ret (.tuple #[(.slice y38.a y38.n y38.c), (.agg z19), (.int .i64 v46)])
      ) (
        C.ld .slice 1 ((Addr.mk b28 0 none).add 1) fun v50 =>
        C.st 32 (Addr.mk b7 0 none) (.agg (Array.replicate 32 (.int .u8 0))) <|
        C.ld .agg 32 (Addr.mk b7 0 none) fun z21 =>
        C.ret (.tuple #[(.slice v50.a v50.n v50.c), (.agg z21), (.int .i64 0)])
      )
    )
  )
theorem spec_LoadList_eq (C : Comb) (x0 : Array Value) (x1 : Array Value) (x2 : Int) : fT C Tryz.prog { loop := [], join := [], anyOrder := [9], pure := [] } n_spec_LoadList [(.agg x0), (.agg x1), (.int .i64 x2)] = spec_LoadList C x0 x1 x2 := by kernel_rfl
theorem spec_LoadList_calls {R : Value → World → Prop} {w : World} (x0 : Array Value) (x1 : Array Value) (x2 : Int) (h : (spec_LoadList (real Tryz.prog R) x0 x1 x2 : World → Prop) w) :
    Calls Tryz.prog n_spec_LoadList [(.agg x0), (.agg x1), (.int .i64 x2)].toArray w fun e w' => ∃ v, e = .returned v ∧ R v w' := fT_sound mixed { loop := [], join := [], anyOrder := [9], pure := [] } (by rw [spec_LoadList_eq]; exact h)

/-- impl.LoadList (28) -/
def impl_LoadList (C : Comb) (x0 : Array Value) (x1 : Array Value) (x2 : Int) : C.St :=
  C.new ty_impl_Store (.agg x0) fun b3 =>
  C.new ty_impl_Key (.agg x1) fun b4 =>
  C.new ty_impl_Key (.agg (Array.replicate 32 (.int .u8 0))) fun b7 =>
  C.ld .agg 1 (Addr.mk b3 0 none) fun v15 =>
  C.call n_impl_newShop [(.agg v15)] [.optr, .bool] fun r16 =>
  cond (!r16.2) (
    C.st 32 (Addr.mk b7 0 none) (.agg (Array.replicate 32 (.int .u8 0))) <|
    C.ld .agg 32 (Addr.mk b7 0 none) fun z6 =>
    C.ret (.tuple #[(.slice none 0 0), (.agg z6), (.int .i64 1)])
  ) (
    C.call n_impl_within [(.int .i64 x2), (.int .i64 0), (.int .i64 256)] [.bool] fun r25 =>
    cond (!r25) (
      C.st 32 (Addr.mk b7 0 none) (.agg (Array.replicate 32 (.int .u8 0))) <|
      C.ld .agg 32 (Addr.mk b7 0 none) fun z8 =>
      C.ret (.tuple #[(.slice none 0 0), (.agg z8), (.int .i64 2)])
    ) (
      C.pur (Instr.build ty_impl_lister #[(0, (.pointer r16.1))]) .agg fun y29 =>
      C.new ty_impl_lister (.agg y29) fun b30 =>
      C.sem (Instr.buildSlice ty_sl_sl_uint8 0 #[]) .slice fun y31 =>
      C.new ty_sl_sl_uint8 (.slice none 0 0) fun b12 =>
      C.st 1 (Addr.mk b12 0 none) (.slice y31.a y31.n y31.c) <|
      C.ld .agg 32 (Addr.mk b4 0 none) fun v33 =>
      C.call n_ptr_impl_lister_load [(.pointer (some (Addr.mk b30 0 none))), (.agg v33), (.int .i64 x2), (.func (.func n_impl_LoadList_1) #[] #[(.pointer (some (Addr.mk b12 0 none)))])] [(.int .i64)] fun r36 =>
      cond (r36 != 0) (
        C.draw <|
        C.ld .agg 32 ((Addr.mk b30 0 none).add 1) fun v42 =>
        C.st 32 (Addr.mk b7 0 none) (.agg v42) <|
        C.ld .agg 32 (Addr.mk b7 0 none) fun z16 =>
        C.ret (.tuple #[(.slice none 0 0), (.agg z16), (.int .i64 r36)])
      ) (
        C.ld .slice 1 (Addr.mk b12 0 none) fun v44 =>
        C.st 32 (Addr.mk b7 0 none) (.agg (Array.replicate 32 (.int .u8 0))) <|
        C.ld .agg 32 (Addr.mk b7 0 none) fun z18 =>
        C.ret (.tuple #[(.slice v44.a v44.n v44.c), (.agg z18), (.int .i64 0)])
      )
    )
  )
theorem impl_LoadList_eq (C : Comb) (x0 : Array Value) (x1 : Array Value) (x2 : Int) : fT C Tryz.prog { loop := [], join := [], anyOrder := [9], pure := [] } n_impl_LoadList [(.agg x0), (.agg x1), (.int .i64 x2)] = impl_LoadList C x0 x1 x2 := by kernel_rfl
theorem impl_LoadList_calls {R : Value → World → Prop} {w : World} (x0 : Array Value) (x1 : Array Value) (x2 : Int) (h : (impl_LoadList (real Tryz.prog R) x0 x1 x2 : World → Prop) w) :
    Calls Tryz.prog n_impl_LoadList [(.agg x0), (.agg x1), (.int .i64 x2)].toArray w fun e w' => ∃ v, e = .returned v ∧ R v w' := fT_sound mixed { loop := [], join := [], anyOrder := [9], pure := [] } (by rw [impl_LoadList_eq]; exact h)

/-- laws.eqByteSS (29) -/
def laws_eqByteSS (C : Comb) (x0 : Sl) (x1 : Sl) : C.St :=
  cond ((x0.n : Int) != (x1.n : Int)) (
    C.ret (.bool false)
  ) (
    C.loop (TL [(.int .i64)]) (embL [(.int .i64)]) [(.int .i64 0)] fun s1 ct1 => C.any fun _ =>
    cond (decide (s1 < (x0.n : Int))) (
      C.draw <|
      C.ix x0.a x0.n 1 s1 fun p19 =>
      C.ld .slice 1 p19 fun v20 =>
      C.ix x1.a x1.n 1 s1 fun p23 =>
      C.ld .slice 1 p23 fun v24 =>
      C.call n_laws_eqByteS [(.slice v20.a v20.n v20.c), (.slice v24.a v24.n v24.c)] [.bool] fun r25 =>
      cond (!r25) (
        C.ret (.bool false)
      ) (
        ct1 [(.int .i64 (IntKind.wrap .i64 (s1 + 1)))]
      )
    ) (
      C.ret (.bool true)
    )
  )
theorem laws_eqByteSS_eq (C : Comb) (x0 : Sl) (x1 : Sl) : fT C Tryz.prog { loop := [(4, [(5, (.int .i64))])], join := [], anyOrder := [6], pure := [] } n_laws_eqByteSS [(.slice x0.a x0.n x0.c), (.slice x1.a x1.n x1.c)] = laws_eqByteSS C x0 x1 := by kernel_rfl
theorem laws_eqByteSS_calls {R : Value → World → Prop} {w : World} (x0 : Sl) (x1 : Sl) (h : (laws_eqByteSS (real Tryz.prog R) x0 x1 : World → Prop) w) :
    Calls Tryz.prog n_laws_eqByteSS [(.slice x0.a x0.n x0.c), (.slice x1.a x1.n x1.c)].toArray w fun e w' => ∃ v, e = .returned v ∧ R v w' := fT_sound mixed { loop := [(4, [(5, (.int .i64))])], join := [], anyOrder := [6], pure := [] } (by rw [laws_eqByteSS_eq]; exact h)

/-- laws.markByteSS (30) -/
def laws_markByteSS (C : Comb) (x0 : Sl) (x1 : Int) : C.St :=
  C.loop (TL [(.int .i64), (.int .i64)]) (embL [(.int .i64), (.int .i64)]) [(.int .i64 x1), (.int .i64 0)] fun s1 ct1 => C.any fun _ =>
  cond (decide (s1.2 < (x0.n : Int))) (
    C.ix x0.a x0.n 1 s1.2 fun p14 =>
    C.ld .slice 1 p14 fun v15 =>
    C.call n_laws_markByteS [(.slice v15.a v15.n v15.c), (.int .i64 s1.1)] [(.int .i64)] fun r17 =>
    ct1 [(.int .i64 r17), (.int .i64 (IntKind.wrap .i64 (s1.2 + 1)))]
  ) (
    C.ret (.int .i64 s1.1)
  )
theorem laws_markByteSS_eq (C : Comb) (x0 : Sl) (x1 : Int) : fT C Tryz.prog { loop := [(2, [(1, (.int .i64)), (5, (.int .i64))])], join := [], anyOrder := [], pure := [] } n_laws_markByteSS [(.slice x0.a x0.n x0.c), (.int .i64 x1)] = laws_markByteSS C x0 x1 := by kernel_rfl
theorem laws_markByteSS_calls {R : Value → World → Prop} {w : World} (x0 : Sl) (x1 : Int) (h : (laws_markByteSS (real Tryz.prog R) x0 x1 : World → Prop) w) :
    Calls Tryz.prog n_laws_markByteSS [(.slice x0.a x0.n x0.c), (.int .i64 x1)].toArray w fun e w' => ∃ v, e = .returned v ∧ R v w' := fT_sound mixed { loop := [(2, [(1, (.int .i64)), (5, (.int .i64))])], join := [], anyOrder := [], pure := [] } (by rw [laws_markByteSS_eq]; exact h)

/-- laws.heldByteSS (31) -/
def laws_heldByteSS (C : Comb) (x0 : Sl) (x1 : Int) : C.St :=
  C.loop (TL [(.int .i64), (.int .i64)]) (embL [(.int .i64), (.int .i64)]) [(.int .i64 x1), (.int .i64 0)] fun s1 ct1 => C.any fun _ =>
  cond (decide (s1.2 < (x0.n : Int))) (
    C.ix x0.a x0.n 1 s1.2 fun p14 =>
    C.ld .slice 1 p14 fun v15 =>
    C.call n_laws_heldByteS [(.slice v15.a v15.n v15.c), (.int .i64 s1.1)] [(.int .i64)] fun r17 =>
    cond (decide (r17 < 0)) (
      C.ret (.int .i64 (-1))
    ) (
      ct1 [(.int .i64 r17), (.int .i64 (IntKind.wrap .i64 (s1.2 + 1)))]
    )
  ) (
    C.ret (.int .i64 s1.1)
  )
theorem laws_heldByteSS_eq (C : Comb) (x0 : Sl) (x1 : Int) : fT C Tryz.prog { loop := [(2, [(1, (.int .i64)), (5, (.int .i64))])], join := [], anyOrder := [], pure := [] } n_laws_heldByteSS [(.slice x0.a x0.n x0.c), (.int .i64 x1)] = laws_heldByteSS C x0 x1 := by kernel_rfl
theorem laws_heldByteSS_calls {R : Value → World → Prop} {w : World} (x0 : Sl) (x1 : Int) (h : (laws_heldByteSS (real Tryz.prog R) x0 x1 : World → Prop) w) :
    Calls Tryz.prog n_laws_heldByteSS [(.slice x0.a x0.n x0.c), (.int .i64 x1)].toArray w fun e w' => ∃ v, e = .returned v ∧ R v w' := fT_sound mixed { loop := [(2, [(1, (.int .i64)), (5, (.int .i64))])], join := [], anyOrder := [], pure := [] } (by rw [laws_heldByteSS_eq]; exact h)

/-- laws.szByteSS (32) -/
def laws_szByteSS (C : Comb) (x0 : Sl) (x1 : Int) : C.St :=
  cond (decide ((IntKind.wrap .i64 (x1 - (x0.n : Int))) < 0)) (
    C.ret (.int .i64 (-1))
  ) (
    C.loop (TL [(.int .i64), (.int .i64)]) (embL [(.int .i64), (.int .i64)]) [(.int .i64 (IntKind.wrap .i64 (x1 - (x0.n : Int)))), (.int .i64 0)] fun s1 ct1 => C.any fun _ =>
    cond (decide (s1.2 < (x0.n : Int))) (
      C.ix x0.a x0.n 1 s1.2 fun p20 =>
      C.ld .slice 1 p20 fun v21 =>
      C.call n_laws_szByteS [(.slice v21.a v21.n v21.c), (.int .i64 s1.1)] [(.int .i64)] fun r23 =>
      cond (decide (r23 < 0)) (
        C.ret (.int .i64 (-1))
      ) (
        ct1 [(.int .i64 r23), (.int .i64 (IntKind.wrap .i64 (s1.2 + 1)))]
      )
    ) (
      C.ret (.int .i64 s1.1)
    )
  )
theorem laws_szByteSS_eq (C : Comb) (x0 : Sl) (x1 : Int) : fT C Tryz.prog { loop := [(5, [(1, (.int .i64)), (5, (.int .i64))])], join := [], anyOrder := [], pure := [] } n_laws_szByteSS [(.slice x0.a x0.n x0.c), (.int .i64 x1)] = laws_szByteSS C x0 x1 := by kernel_rfl
theorem laws_szByteSS_calls {R : Value → World → Prop} {w : World} (x0 : Sl) (x1 : Int) (h : (laws_szByteSS (real Tryz.prog R) x0 x1 : World → Prop) w) :
    Calls Tryz.prog n_laws_szByteSS [(.slice x0.a x0.n x0.c), (.int .i64 x1)].toArray w fun e w' => ∃ v, e = .returned v ∧ R v w' := fT_sound mixed { loop := [(5, [(1, (.int .i64)), (5, (.int .i64))])], join := [], anyOrder := [], pure := [] } (by rw [laws_szByteSS_eq]; exact h)

/-- spec.StoreList (33) -/
def spec_StoreList (C : Comb) (x0 : Array Value) (x1 : Sl) : C.St :=
  C.new ty_impl_Store (.agg x0) fun b2 =>
  C.new ty_impl_Store (.agg (#[(.slice none 0 0)])) fun b4 =>
  C.new ty_impl_Key (.agg (Array.replicate 32 (.int .u8 0))) fun b5 =>
  cond (decide ((x1.n : Int) > 256)) (
    C.pur (Instr.build ty_impl_Store #[]) .agg fun y21 =>
    C.st 1 (Addr.mk b4 0 none) (.agg y21) <|
    C.st 32 (Addr.mk b5 0 none) (.agg (Array.replicate 32 (.int .u8 0))) <|
    C.ld .agg 1 (Addr.mk b4 0 none) fun z5 =>
    C.ld .agg 32 (Addr.mk b5 0 none) fun z6 =>
    C.ret (.tuple #[(.agg z5), (.agg z6), (.int .i64 3)])
  ) (
    C.call n_spec_l05Open [(.pointer (some (Addr.mk b2 0 none)))] [.optr, .bool] fun r24 =>
    C.join (TL [.bool]) (embL [.bool]) (fun s12 => C.any fun _ =>
        cond (!s12) (
          C.pur (Instr.build ty_impl_Store #[]) .agg fun y44 =>
          C.st 1 (Addr.mk b4 0 none) (.agg y44) <|
          C.st 32 (Addr.mk b5 0 none) (.agg (Array.replicate 32 (.int .u8 0))) <|
          C.ld .agg 1 (Addr.mk b4 0 none) fun z14 =>
          C.ld .agg 32 (Addr.mk b5 0 none) fun z15 =>
          C.ret (.tuple #[(.agg z14), (.agg z15), (.int .i64 1)])
        ) (
          C.sem (Instr.buildSlice ty_sl_impl_Key 0 #[]) .slice fun y46 =>
          C.loop (TL [.slice, (.int .i64)]) (embL [.slice, (.int .i64)]) [(.slice y46.a y46.n y46.c), (.int .i64 0)] fun s17 ct17 => C.any fun _ =>
          cond (decide (s17.2 < (x1.n : Int))) (
            C.ix x1.a x1.n 1 s17.2 fun p57 =>
            C.ld .slice 1 p57 fun v58 =>
            C.pur (Instr.build ty_impl_Blob #[(0, (.int .u8 1)), (1, (.slice v58.a v58.n v58.c))]) .agg fun y59 =>
            C.call n_ptr_spec_l05Store_put [(.pointer r24.1), (.agg y59)] [.agg, (.int .i64)] fun r60 =>
            C.new ty_impl_Key (.agg (Array.replicate 32 (.int .u8 0))) fun b12 =>
            C.st 32 (Addr.mk b12 0 none) (.agg r60.1) <|
            cond (r60.2 != 0) (
              C.ld .agg 32 (Addr.mk b12 0 none) fun v66 =>
              C.call n_spec_l05Made [(.pointer r24.1), (.agg v66), (.int .i64 r60.2)] [.agg, .agg, (.int .i64)] fun r68 =>
              C.st 1 (Addr.mk b4 0 none) (.agg r68.1) <|
              C.st 32 (Addr.mk b5 0 none) (.agg r68.2.1) <|
              C.ld .agg 1 (Addr.mk b4 0 none) fun z25 =>
              C.ld .agg 32 (Addr.mk b5 0 none) fun z26 =>
              C.ret (.tuple #[(.agg z25), (.agg z26), (.int .i64 r68.2.2)])
            ) (
              C.ld .agg 32 (Addr.mk b12 0 none) fun v73 =>
              C.sem (Instr.buildSlice ty_sl_impl_Key 1 #[(0, (.agg v73))]) .slice fun y74 =>
              C.sem (Builtin.append_ #[ty_sl_impl_Key, ty_sl_impl_Key] ty_sl_impl_Key #[(.slice s17.1.a s17.1.n s17.1.c), (.slice y74.a y74.n y74.c)]) .slice fun y75 =>
              ct17 [(.slice y75.a y75.n y75.c), (.int .i64 (IntKind.wrap .i64 (s17.2 + 1)))]
            )
          ) (
            cond ((s17.1.n : Int) == 0) (
              C.pur (Instr.build ty_impl_Blob #[(0, (.int .u8 3))]) .agg fun y81 =>
              C.call n_ptr_spec_l05Store_put [(.pointer r24.1), (.agg y81)] [.agg, (.int .i64)] fun r82 =>
              C.new ty_impl_Key (.agg (Array.replicate 32 (.int .u8 0))) fun b14 =>
              C.st 32 (Addr.mk b14 0 none) (.agg r82.1) <|
              C.ld .agg 32 (Addr.mk b14 0 none) fun v86 =>
              C.call n_spec_l05Made [(.pointer r24.1), (.agg v86), (.int .i64 r82.2)] [.agg, .agg, (.int .i64)] fun r88 =>
              C.st 1 (Addr.mk b4 0 none) (.agg r88.1) <|
              C.st 32 (Addr.mk b5 0 none) (.agg r88.2.1) <|
              C.ld .agg 1 (Addr.mk b4 0 none) fun z35 =>
              C.ld .agg 32 (Addr.mk b5 0 none) fun z36 =>
              C.ret (.tuple #[(.agg z35), (.agg z36), (.int .i64 r88.2.2)])
            ) (
              C.call n_ptr_spec_l05Store_list [(.pointer r24.1), (.slice s17.1.a s17.1.n s17.1.c)] [.agg, (.int .i64)] fun r95 =>
              C.new ty_impl_Key (.agg (Array.replicate 32 (.int .u8 0))) fun b16 =>
              C.st 32 (Addr.mk b16 0 none) (.agg r95.1) <|
              C.ld .agg 32 (Addr.mk b16 0 none) fun v99 =>
              C.call n_spec_l05Made [(.pointer r24.1), (.agg v99), (.int .i64 r95.2)] [.agg, .agg, (.int .i64)] fun r101 =>
              C.st 1 (Addr.mk b4 0 none) (.agg r101.1) <|
              C.st 32 (Addr.mk b5 0 none) (.agg r101.2.1) <|
              C.ld .agg 1 (Addr.mk b4 0 none) fun z41 =>
              C.ld .agg 32 (Addr.mk b5 0 none) fun z42 =>
              C.ret (.tuple #[(.agg z41), (.agg z42), (.int .i64 r101.2.2)])
            )
          )
        )
      ) fun jt =>
    C.loop (TL [.bool, (.int .i64)]) (embL [.bool, (.int .i64)]) [(.bool r24.2), (.int .i64 0)] fun s8 ct8 => C.any fun _ =>
    C.join (TL []) (embL []) (fun s9 => C.any fun _ =>
        C.ix x1.a x1.n 1 s8.2 fun p38 =>
        C.ld .slice 1 p38 fun v39 =>
        ct8 [(.bool (decide ((v39.n : Int) ≤ 1024))), (.int .i64 (IntKind.wrap .i64 (s8.2 + 1)))]
      ) fun jt1 =>
    cond (decide (s8.2 < (x1.n : Int))) (
      cond s8.1 (
        jt1 []
      ) (
        jt [(.bool s8.1)]
      )
    ) (
      jt [(.bool s8.1)]
    )
  )
theorem spec_StoreList_eq (C : Comb) (x0 : Array Value) (x1 : Sl) : fT C Tryz.prog { loop := [(5, [(8, .bool), (9, (.int .i64))]), (12, [(10, .slice), (11, (.int .i64))])], join := [(99, []), (17, [(8, .bool)])], anyOrder := [], pure := [] } n_spec_StoreList [(.agg x0), (.slice x1.a x1.n x1.c)] = spec_StoreList C x0 x1 := by kernel_rfl
theorem spec_StoreList_calls {R : Value → World → Prop} {w : World} (x0 : Array Value) (x1 : Sl) (h : (spec_StoreList (real Tryz.prog R) x0 x1 : World → Prop) w) :
    Calls Tryz.prog n_spec_StoreList [(.agg x0), (.slice x1.a x1.n x1.c)].toArray w fun e w' => ∃ v, e = .returned v ∧ R v w' := fT_sound mixed { loop := [(5, [(8, .bool), (9, (.int .i64))]), (12, [(10, .slice), (11, (.int .i64))])], join := [(99, []), (17, [(8, .bool)])], anyOrder := [], pure := [] } (by rw [spec_StoreList_eq]; exact h)

/-- laws.toByteSS (34) -/
def laws_toByteSS (C : Comb) (x0 : Sl) : C.St :=
  C.sem (Instr.makeSlice ty_sl_sl_uint8 (.int .i64 (x0.n : Int)) (.int .i64 (x0.n : Int))) .slice fun y7 =>
  C.loop (TL [(.int .i64)]) (embL [(.int .i64)]) [(.int .i64 0)] fun s2 ct2 => C.any fun _ =>
  cond (decide (s2 < (x0.n : Int))) (
    C.ix x0.a x0.n 1 s2 fun p18 =>
    C.ld .slice 1 p18 fun v19 =>
    C.call n_laws_toByteS [(.slice v19.a v19.n v19.c)] [.slice] fun r20 =>
    C.ix y7.a y7.n 1 s2 fun p21 =>
    C.st 1 p21 (.slice r20.a r20.n r20.c) <|
    ct2 [(.int .i64 (IntKind.wrap .i64 (s2 + 1)))]
  ) (
    C.ret (.slice y7.a y7.n y7.c)
  )
theorem laws_toByteSS_eq (C : Comb) (x0 : Sl) : fT C Tryz.prog { loop := [(3, [(4, (.int .i64))])], join := [], anyOrder := [], pure := [] } n_laws_toByteSS [(.slice x0.a x0.n x0.c)] = laws_toByteSS C x0 := by kernel_rfl
theorem laws_toByteSS_calls {R : Value → World → Prop} {w : World} (x0 : Sl) (h : (laws_toByteSS (real Tryz.prog R) x0 : World → Prop) w) :
    Calls Tryz.prog n_laws_toByteSS [(.slice x0.a x0.n x0.c)].toArray w fun e w' => ∃ v, e = .returned v ∧ R v w' := fT_sound mixed { loop := [(3, [(4, (.int .i64))])], join := [], anyOrder := [], pure := [] } (by rw [laws_toByteSS_eq]; exact h)

/-- impl.StoreList (35) -/
def impl_StoreList (C : Comb) (x0 : Array Value) (x1 : Sl) : C.St :=
  C.new ty_impl_Store (.agg x0) fun b2 =>
  C.new ty_impl_Store (.agg (#[(.slice none 0 0)])) fun b4 =>
  C.new ty_impl_Key (.agg (Array.replicate 32 (.int .u8 0))) fun b5 =>
  cond (decide ((x1.n : Int) > 256)) (
    C.pur (Instr.build ty_impl_Store #[]) .agg fun y20 =>
    C.st 1 (Addr.mk b4 0 none) (.agg y20) <|
    C.st 32 (Addr.mk b5 0 none) (.agg (Array.replicate 32 (.int .u8 0))) <|
    C.ld .agg 1 (Addr.mk b4 0 none) fun z5 =>
    C.ld .agg 32 (Addr.mk b5 0 none) fun z6 =>
    C.ret (.tuple #[(.agg z5), (.agg z6), (.int .i64 3)])
  ) (
    C.ld .agg 1 (Addr.mk b2 0 none) fun v23 =>
    C.call n_impl_newShop [(.agg v23)] [.optr, .bool] fun r24 =>
    C.join (TL []) (embL []) (fun s16 => C.any fun _ =>
        C.sem (Instr.buildSlice ty_sl_impl_Blob 0 #[]) .slice fun y35 =>
        C.sem (Instr.buildSlice ty_sl_impl_Key 0 #[]) .slice fun y36 =>
        C.loop (TL [.slice, .slice, (.int .i64)]) (embL [.slice, .slice, (.int .i64)]) [(.slice y35.a y35.n y35.c), (.slice y36.a y36.n y36.c), (.int .i64 0)] fun s19 ct19 => C.any fun _ =>
        cond (decide (s19.2.2 < (x1.n : Int))) (
          C.ix x1.a x1.n 1 s19.2.2 fun p41 =>
          C.ld .slice 1 p41 fun v42 =>
          C.pur (Instr.build ty_impl_Blob #[(0, (.int .u8 1)), (1, (.slice v42.a v42.n v42.c))]) .agg fun y44 =>
          C.new ty_impl_Blob (.agg (#[(.int .u8 0), (.slice none 0 0)])) fun b13 =>
          C.st 2 (Addr.mk b13 0 none) (.agg y44) <|
          C.draw <|
          C.ld .agg 2 (Addr.mk b13 0 none) fun v46 =>
          C.ld .agg 2 (Addr.mk b13 0 none) fun v50 =>
          C.sem (Instr.buildSlice ty_sl_impl_Blob 1 #[(0, (.agg v46))]) .slice fun y47 =>
          C.chk [⟨5, 2, (Addr.mk b13 0 none), .agg, v50⟩] <|
          C.sem (Builtin.append_ #[ty_sl_impl_Blob, ty_sl_impl_Blob] ty_sl_impl_Blob #[(.slice s19.1.a s19.1.n s19.1.c), (.slice y47.a y47.n y47.c)]) .slice fun y48 =>
          C.chk [⟨5, 2, (Addr.mk b13 0 none), .agg, v50⟩] <|
          C.call n_impl_Blob_key [(.agg v50)] [.agg] fun r51 =>
          C.sem (Instr.buildSlice ty_sl_impl_Key 1 #[(0, (.agg r51))]) .slice fun y52 =>
          C.sem (Builtin.append_ #[ty_sl_impl_Key, ty_sl_impl_Key] ty_sl_impl_Key #[(.slice s19.2.1.a s19.2.1.n s19.2.1.c), (.slice y52.a y52.n y52.c)]) .slice fun y53 =>
          ct19 [(.slice y48.a y48.n y48.c), (.slice y53.a y53.n y53.c), (.int .i64 (IntKind.wrap .i64 (s19.2.2 + 1)))]
        ) (
          C.call n_impl_listBlobs [(.slice s19.2.1.a s19.2.1.n s19.2.1.c)] [.slice] fun r57 =>
          C.sem (Builtin.append_ #[ty_sl_impl_Blob, ty_sl_impl_Blob] ty_sl_impl_Blob #[(.slice s19.1.a s19.1.n s19.1.c), (.slice r57.a r57.n r57.c)]) .slice fun y58 =>
          C.join (TL [.slice]) (embL [.slice]) (fun s36 => C.any fun _ =>
              C.call n_ptr_impl_shop_putAll [(.pointer r24.1), (.slice s36.a s36.n s36.c)] [.agg, .agg, (.int .i64)] fun r69 =>
              C.new ty_impl_Store (.agg (#[(.slice none 0 0)])) fun b14 =>
              C.new ty_impl_Key (.agg (Array.replicate 32 (.int .u8 0))) fun b15 =>
              C.st 1 (Addr.mk b14 0 none) (.agg r69.1) <|
              C.st 32 (Addr.mk b15 0 none) (.agg r69.2.1) <|
              cond (r69.2.2 != 0) (
                C.pur (Instr.build ty_impl_Store #[]) .agg fun y75 =>
                C.st 1 (Addr.mk b4 0 none) (.agg y75) <|
                C.st 32 (Addr.mk b5 0 none) (.agg (Array.replicate 32 (.int .u8 0))) <|
                C.ld .agg 1 (Addr.mk b4 0 none) fun z41 =>
                C.ld .agg 32 (Addr.mk b5 0 none) fun z42 =>
                C.ret (.tuple #[(.agg z41), (.agg z42), (.int .i64 r69.2.2)])
              ) (
                C.draw <|
                C.ld .agg 1 (Addr.mk b14 0 none) fun v78 =>
                C.call n_impl_listKey [(.slice s19.2.1.a s19.2.1.n s19.2.1.c)] [.agg] fun r80 =>
                C.chk [⟨0, 1, (Addr.mk b14 0 none), .agg, v78⟩] <|
                C.st 1 (Addr.mk b4 0 none) (.agg v78) <|
                C.st 32 (Addr.mk b5 0 none) (.agg r80) <|
                C.ld .agg 1 (Addr.mk b4 0 none) fun z45 =>
                C.ld .agg 32 (Addr.mk b5 0 none) fun z46 =>
                C.ret (.tuple #[(.agg z45), (.agg z46), (.int .i64 0)])
              )
            ) fun jt =>
          cond ((x1.n : Int) == 0) (
            C.pur (Instr.build ty_impl_Blob #[(0, (.int .u8 3))]) .agg fun y63 =>
            C.sem (Instr.buildSlice ty_sl_impl_Blob 1 #[(0, (.agg y63))]) .slice fun y64 =>
            C.sem (Builtin.append_ #[ty_sl_impl_Blob, ty_sl_impl_Blob] ty_sl_impl_Blob #[(.slice y58.a y58.n y58.c), (.slice y64.a y64.n y64.c)]) .slice fun y65 =>
            jt [(.slice y65.a y65.n y65.c)]
          ) (
            jt [(.slice y58.a y58.n y58.c)]
          )
        )
      ) fun jt =>
    cond (!r24.2) (
      C.pur (Instr.build ty_impl_Store #[]) .agg fun y33 =>
      C.st 1 (Addr.mk b4 0 none) (.agg y33) <|
      C.st 32 (Addr.mk b5 0 none) (.agg (Array.replicate 32 (.int .u8 0))) <|
      C.ld .agg 1 (Addr.mk b4 0 none) fun z10 =>
      C.ld .agg 32 (Addr.mk b5 0 none) fun z11 =>
      C.ret (.tuple #[(.agg z10), (.agg z11), (.int .i64 1)])
    ) (
      C.call n_slices_ContainsFunc_sl_sl_byte_sl_byte [(.slice x1.a x1.n x1.c), (.func (.func n_impl_StoreList_1) #[] #[])] [.bool] fun r31 =>
      cond r31 (
        C.pur (Instr.build ty_impl_Store #[]) .agg fun y33 =>
        C.st 1 (Addr.mk b4 0 none) (.agg y33) <|
        C.st 32 (Addr.mk b5 0 none) (.agg (Array.replicate 32 (.int .u8 0))) <|
        C.ld .agg 1 (Addr.mk b4 0 none) fun z14 =>
        C.ld .agg 32 (Addr.mk b5 0 none) fun z15 =>
        C.ret (.tuple #[(.agg z14), (.agg z15), (.int .i64 1)])
      ) (
        jt []
      )
    )
  )
theorem impl_StoreList_eq (C : Comb) (x0 : Array Value) (x1 : Sl) : fT C Tryz.prog { loop := [(8, [(9, .slice), (10, .slice), (39, (.int .i64))])], join := [(96, []), (183, [(9, .slice)])], anyOrder := [11, 19], pure := [] } n_impl_StoreList [(.agg x0), (.slice x1.a x1.n x1.c)] = impl_StoreList C x0 x1 := by kernel_rfl
theorem impl_StoreList_calls {R : Value → World → Prop} {w : World} (x0 : Array Value) (x1 : Sl) (h : (impl_StoreList (real Tryz.prog R) x0 x1 : World → Prop) w) :
    Calls Tryz.prog n_impl_StoreList [(.agg x0), (.slice x1.a x1.n x1.c)].toArray w fun e w' => ∃ v, e = .returned v ∧ R v w' := fT_sound mixed { loop := [(8, [(9, .slice), (10, .slice), (39, (.int .i64))])], join := [(96, []), (183, [(9, .slice)])], anyOrder := [11, 19], pure := [] } (by rw [impl_StoreList_eq]; exact h)

/-- laws.heldStore (36) -/
def laws_heldStore (C : Comb) (x0 : Array Value) (x1 : Int) : C.St :=
  C.new ty_impl_Store (.agg x0) fun b2 =>
  C.ld .slice 1 ((Addr.mk b2 0 none).add 0) fun v6 =>
  C.call n_laws_heldBlobS [(.slice v6.a v6.n v6.c), (.int .i64 x1)] [(.int .i64)] fun r8 =>
  cond (decide (r8 < 0)) (
    C.ret (.int .i64 (-1))
  ) (
    C.ret (.int .i64 r8)
  )
theorem laws_heldStore_eq (C : Comb) (x0 : Array Value) (x1 : Int) : fT C Tryz.prog { loop := [], join := [], anyOrder := [], pure := [] } n_laws_heldStore [(.agg x0), (.int .i64 x1)] = laws_heldStore C x0 x1 := by kernel_rfl
theorem laws_heldStore_calls {R : Value → World → Prop} {w : World} (x0 : Array Value) (x1 : Int) (h : (laws_heldStore (real Tryz.prog R) x0 x1 : World → Prop) w) :
    Calls Tryz.prog n_laws_heldStore [(.agg x0), (.int .i64 x1)].toArray w fun e w' => ∃ v, e = .returned v ∧ R v w' := fT_sound mixed { loop := [], join := [], anyOrder := [], pure := [] } (by rw [laws_heldStore_eq]; exact h)

/-- laws.szEntryS (37) -/
def laws_szEntryS (C : Comb) (x0 : Sl) (x1 : Int) : C.St :=
  cond (decide ((IntKind.wrap .i64 (x1 - (x0.n : Int))) < 0)) (
    C.ret (.int .i64 (-1))
  ) (
    C.loop (TL [(.int .i64), (.int .i64)]) (embL [(.int .i64), (.int .i64)]) [(.int .i64 (IntKind.wrap .i64 (x1 - (x0.n : Int)))), (.int .i64 0)] fun s1 ct1 => C.any fun _ =>
    cond (decide (s1.2 < (x0.n : Int))) (
      C.ix x0.a x0.n 2 s1.2 fun p20 =>
      C.ld .agg 2 p20 fun v21 =>
      C.call n_laws_szEntry [(.agg v21), (.int .i64 s1.1)] [(.int .i64)] fun r23 =>
      cond (decide (r23 < 0)) (
        C.ret (.int .i64 (-1))
      ) (
        ct1 [(.int .i64 r23), (.int .i64 (IntKind.wrap .i64 (s1.2 + 1)))]
      )
    ) (
      C.ret (.int .i64 s1.1)
    )
  )
theorem laws_szEntryS_eq (C : Comb) (x0 : Sl) (x1 : Int) : fT C Tryz.prog { loop := [(5, [(1, (.int .i64)), (5, (.int .i64))])], join := [], anyOrder := [], pure := [] } n_laws_szEntryS [(.slice x0.a x0.n x0.c), (.int .i64 x1)] = laws_szEntryS C x0 x1 := by kernel_rfl
theorem laws_szEntryS_calls {R : Value → World → Prop} {w : World} (x0 : Sl) (x1 : Int) (h : (laws_szEntryS (real Tryz.prog R) x0 x1 : World → Prop) w) :
    Calls Tryz.prog n_laws_szEntryS [(.slice x0.a x0.n x0.c), (.int .i64 x1)].toArray w fun e w' => ∃ v, e = .returned v ∧ R v w' := fT_sound mixed { loop := [(5, [(1, (.int .i64)), (5, (.int .i64))])], join := [], anyOrder := [], pure := [] } (by rw [laws_szEntryS_eq]; exact h)

/-- spec.StoreMap (38) -/
def spec_StoreMap (C : Comb) (x0 : Array Value) (x1 : Sl) : C.St :=
  C.new ty_impl_Store (.agg x0) fun b2 =>
  C.new ty_impl_Store (.agg (#[(.slice none 0 0)])) fun b4 =>
  C.new ty_impl_Key (.agg (Array.replicate 32 (.int .u8 0))) fun b5 =>
  C.call n_spec_l05Open [(.pointer (some (Addr.mk b2 0 none)))] [.optr, .bool] fun r15 =>
  C.join (TL []) (embL []) (fun s12 => C.any fun _ =>
      C.call n_spec_l04Nodes [(.slice x1.a x1.n x1.c)] [.slice, .agg] fun r29 =>
      C.new ty_impl_Key (.agg (Array.replicate 32 (.int .u8 0))) fun b10 =>
      C.st 32 (Addr.mk b10 0 none) (.agg r29.2) <|
      C.loop (TL [(.int .i64)]) (embL [(.int .i64)]) [(.int .i64 0)] fun s15 ct15 => C.any fun _ =>
      cond (decide (s15 < (r29.1.n : Int))) (
        C.ix r29.1.a r29.1.n 66 s15 fun p42 =>
        C.call n_spec_l04Bytes [(.pointer (some p42))] [.slice] fun r43 =>
        C.pur (Instr.build ty_impl_Blob #[(0, (.int .u8 5)), (1, (.slice r43.a r43.n r43.c))]) .agg fun y44 =>
        C.call n_ptr_spec_l05Store_put [(.pointer r15.1), (.agg y44)] [.agg, (.int .i64)] fun r45 =>
        C.new ty_impl_Key (.agg (Array.replicate 32 (.int .u8 0))) fun b12 =>
        C.st 32 (Addr.mk b12 0 none) (.agg r45.1) <|
        cond (r45.2 != 0) (
          C.ld .agg 32 (Addr.mk b10 0 none) fun v51 =>
          C.call n_spec_l05Made [(.pointer r15.1), (.agg v51), (.int .i64 r45.2)] [.agg, .agg, (.int .i64)] fun r53 =>
          C.st 1 (Addr.mk b4 0 none) (.agg r53.1) <|
          C.st 32 (Addr.mk b5 0 none) (.agg r53.2.1) <|
          C.ld .agg 1 (Addr.mk b4 0 none) fun z23 =>
          C.ld .agg 32 (Addr.mk b5 0 none) fun z24 =>
          C.ret (.tuple #[(.agg z23), (.agg z24), (.int .i64 r53.2.2)])
        ) (
          ct15 [(.int .i64 (IntKind.wrap .i64 (s15 + 1)))]
        )
      ) (
        C.ld .agg 32 (Addr.mk b10 0 none) fun v58 =>
        C.call n_spec_l05Made [(.pointer r15.1), (.agg v58), (.int .i64 0)] [.agg, .agg, (.int .i64)] fun r59 =>
        C.st 1 (Addr.mk b4 0 none) (.agg r59.1) <|
        C.st 32 (Addr.mk b5 0 none) (.agg r59.2.1) <|
        C.ld .agg 1 (Addr.mk b4 0 none) fun z27 =>
        C.ld .agg 32 (Addr.mk b5 0 none) fun z28 =>
        C.ret (.tuple #[(.agg z27), (.agg z28), (.int .i64 r59.2.2)])
      )
    ) fun jt =>
  cond (!r15.2) (
    C.pur (Instr.build ty_impl_Store #[]) .agg fun y25 =>
    C.st 1 (Addr.mk b4 0 none) (.agg y25) <|
    C.st 32 (Addr.mk b5 0 none) (.agg (Array.replicate 32 (.int .u8 0))) <|
    C.ld .agg 1 (Addr.mk b4 0 none) fun z6 =>
    C.ld .agg 32 (Addr.mk b5 0 none) fun z7 =>
    C.ret (.tuple #[(.agg z6), (.agg z7), (.int .i64 1)])
  ) (
    C.call n_spec_l04Ok [(.slice x1.a x1.n x1.c)] [.bool] fun r22 =>
    cond (!r22) (
      C.pur (Instr.build ty_impl_Store #[]) .agg fun y25 =>
      C.st 1 (Addr.mk b4 0 none) (.agg y25) <|
      C.st 32 (Addr.mk b5 0 none) (.agg (Array.replicate 32 (.int .u8 0))) <|
      C.ld .agg 1 (Addr.mk b4 0 none) fun z10 =>
      C.ld .agg 32 (Addr.mk b5 0 none) fun z11 =>
      C.ret (.tuple #[(.agg z10), (.agg z11), (.int .i64 1)])
    ) (
      jt []
    )
  )
theorem spec_StoreMap_eq (C : Comb) (x0 : Array Value) (x1 : Sl) : fT C Tryz.prog { loop := [(6, [(11, (.int .i64))])], join := [(72, [])], anyOrder := [], pure := [] } n_spec_StoreMap [(.agg x0), (.slice x1.a x1.n x1.c)] = spec_StoreMap C x0 x1 := by kernel_rfl
theorem spec_StoreMap_calls {R : Value → World → Prop} {w : World} (x0 : Array Value) (x1 : Sl) (h : (spec_StoreMap (real Tryz.prog R) x0 x1 : World → Prop) w) :
    Calls Tryz.prog n_spec_StoreMap [(.agg x0), (.slice x1.a x1.n x1.c)].toArray w fun e w' => ∃ v, e = .returned v ∧ R v w' := fT_sound mixed { loop := [(6, [(11, (.int .i64))])], join := [(72, [])], anyOrder := [], pure := [] } (by rw [spec_StoreMap_eq]; exact h)

/-- laws.toEntryS (39) -/
def laws_toEntryS (C : Comb) (x0 : Sl) : C.St :=
  C.sem (Instr.makeSlice ty_sl_impl_Entry (.int .i64 (x0.n : Int)) (.int .i64 (x0.n : Int))) .slice fun y7 =>
  C.loop (TL [(.int .i64)]) (embL [(.int .i64)]) [(.int .i64 0)] fun s2 ct2 => C.any fun _ =>
  cond (decide (s2 < (x0.n : Int))) (
    C.ix x0.a x0.n 2 s2 fun p18 =>
    C.ld .agg 2 p18 fun v19 =>
    C.call n_laws_toEntry [(.agg v19)] [.agg] fun r20 =>
    C.ix y7.a y7.n 2 s2 fun p21 =>
    C.st 2 p21 (.agg r20) <|
    ct2 [(.int .i64 (IntKind.wrap .i64 (s2 + 1)))]
  ) (
    C.ret (.slice y7.a y7.n y7.c)
  )
theorem laws_toEntryS_eq (C : Comb) (x0 : Sl) : fT C Tryz.prog { loop := [(3, [(4, (.int .i64))])], join := [], anyOrder := [], pure := [] } n_laws_toEntryS [(.slice x0.a x0.n x0.c)] = laws_toEntryS C x0 := by kernel_rfl
theorem laws_toEntryS_calls {R : Value → World → Prop} {w : World} (x0 : Sl) (h : (laws_toEntryS (real Tryz.prog R) x0 : World → Prop) w) :
    Calls Tryz.prog n_laws_toEntryS [(.slice x0.a x0.n x0.c)].toArray w fun e w' => ∃ v, e = .returned v ∧ R v w' := fT_sound mixed { loop := [(3, [(4, (.int .i64))])], join := [], anyOrder := [], pure := [] } (by rw [laws_toEntryS_eq]; exact h)

/-- impl.StoreMap (40) -/
def impl_StoreMap (C : Comb) (x0 : Array Value) (x1 : Sl) : C.St :=
  C.new ty_impl_Store (.agg x0) fun b2 =>
  C.new ty_impl_Store (.agg (#[(.slice none 0 0)])) fun b4 =>
  C.new ty_impl_Key (.agg (Array.replicate 32 (.int .u8 0))) fun b5 =>
  C.ld .agg 1 (Addr.mk b2 0 none) fun v16 =>
  C.call n_impl_newShop [(.agg v16)] [.optr, .bool] fun r17 =>
  C.join (TL []) (embL []) (fun s13 => C.any fun _ =>
      C.sem (Instr.buildSlice ty_sl_impl_Blob 0 #[]) .slice fun y29 =>
      C.call n_impl_allNodes [(.slice x1.a x1.n x1.c)] [.slice] fun r31 =>
      C.loop (TL [.slice, (.int .i64)]) (embL [.slice, (.int .i64)]) [(.slice y29.a y29.n y29.c), (.int .i64 0)] fun s16 ct16 => C.any fun _ =>
      cond (decide (s16.2 < (r31.n : Int))) (
        C.ix r31.a r31.n 66 s16.2 fun p35 =>
        C.ld .agg 66 p35 fun v36 =>
        C.new ty_impl_MapNode (.agg (#[(.int .u8 0), (.int .u8 0), (.int .u8 0), (.int .u8 0), (.int .u8 0), (.int .u8 0), (.int .u8 0), (.int .u8 0), (.int .u8 0), (.int .u8 0), (.int .u8 0), (.int .u8 0), (.int .u8 0), (.int .u8 0), (.int .u8 0), (.int .u8 0), (.int .u8 0), (.int .u8 0), (.int .u8 0), (.int .u8 0), (.int .u8 0), (.int .u8 0), (.int .u8 0), (.int .u8 0), (.int .u8 0), (.int .u8 0), (.int .u8 0), (.int .u8 0), (.int .u8 0), (.int .u8 0), (.int .u8 0), (.int .u8 0), (.int .u8 0), (.int .u8 0), (.int .u8 0), (.int .u8 0), (.int .u8 0), (.int .u8 0), (.int .u8 0), (.int .u8 0), (.int .u8 0), (.int .u8 0), (.int .u8 0), (.int .u8 0), (.int .u8 0), (.int .u8 0), (.int .u8 0), (.int .u8 0), (.int .u8 0), (.int .u8 0), (.int .u8 0), (.int .u8 0), (.int .u8 0), (.int .u8 0), (.int .u8 0), (.int .u8 0), (.int .u8 0), (.int .u8 0), (.int .u8 0), (.int .u8 0), (.int .u8 0), (.int .u8 0), (.int .u8 0), (.int .u8 0), (.string (⟨#[]⟩ : ByteArray)), (.string (⟨#[]⟩ : ByteArray))])) fun b11 =>
        C.st 66 (Addr.mk b11 0 none) (.agg v36) <|
        C.ld .agg 66 (Addr.mk b11 0 none) fun v38 =>
        C.call n_impl_MapNode_bytes [(.agg v38)] [.slice] fun r39 =>
        C.pur (Instr.build ty_impl_Blob #[(0, (.int .u8 5)), (1, (.slice r39.a r39.n r39.c))]) .agg fun y40 =>
        C.sem (Instr.buildSlice ty_sl_impl_Blob 1 #[(0, (.agg y40))]) .slice fun y41 =>
        C.sem (Builtin.append_ #[ty_sl_impl_Blob, ty_sl_impl_Blob] ty_sl_impl_Blob #[(.slice s16.1.a s16.1.n s16.1.c), (.slice y41.a y41.n y41.c)]) .slice fun y42 =>
        ct16 [(.slice y42.a y42.n y42.c), (.int .i64 (IntKind.wrap .i64 (s16.2 + 1)))]
      ) (
        C.call n_ptr_impl_shop_putAll [(.pointer r17.1), (.slice s16.1.a s16.1.n s16.1.c)] [.agg, .agg, (.int .i64)] fun r47 =>
        C.new ty_impl_Store (.agg (#[(.slice none 0 0)])) fun b12 =>
        C.new ty_impl_Key (.agg (Array.replicate 32 (.int .u8 0))) fun b13 =>
        C.st 1 (Addr.mk b12 0 none) (.agg r47.1) <|
        C.st 32 (Addr.mk b13 0 none) (.agg r47.2.1) <|
        cond (r47.2.2 != 0) (
          C.pur (Instr.build ty_impl_Store #[]) .agg fun y53 =>
          C.st 1 (Addr.mk b4 0 none) (.agg y53) <|
          C.st 32 (Addr.mk b5 0 none) (.agg (Array.replicate 32 (.int .u8 0))) <|
          C.ld .agg 1 (Addr.mk b4 0 none) fun z29 =>
          C.ld .agg 32 (Addr.mk b5 0 none) fun z30 =>
          C.ret (.tuple #[(.agg z29), (.agg z30), (.int .i64 r47.2.2)])
        ) (
          C.draw <|
          C.ld .agg 1 (Addr.mk b12 0 none) fun v56 =>
          C.call n_impl_treeOf [(.slice x1.a x1.n x1.c)] [.optr] fun r58 =>
          C.chk [⟨0, 1, (Addr.mk b12 0 none), .agg, v56⟩] <|
          C.call n_ptr_impl_tree_key [(.pointer r58)] [.agg] fun r59 =>
          C.chk [⟨0, 1, (Addr.mk b12 0 none), .agg, v56⟩] <|
          C.st 1 (Addr.mk b4 0 none) (.agg v56) <|
          C.st 32 (Addr.mk b5 0 none) (.agg r59) <|
          C.ld .agg 1 (Addr.mk b4 0 none) fun z34 =>
          C.ld .agg 32 (Addr.mk b5 0 none) fun z35 =>
          C.ret (.tuple #[(.agg z34), (.agg z35), (.int .i64 0)])
        )
      )
    ) fun jt =>
  cond (!r17.2) (
    C.pur (Instr.build ty_impl_Store #[]) .agg fun y27 =>
    C.st 1 (Addr.mk b4 0 none) (.agg y27) <|
    C.st 32 (Addr.mk b5 0 none) (.agg (Array.replicate 32 (.int .u8 0))) <|
    C.ld .agg 1 (Addr.mk b4 0 none) fun z7 =>
    C.ld .agg 32 (Addr.mk b5 0 none) fun z8 =>
    C.ret (.tuple #[(.agg z7), (.agg z8), (.int .i64 1)])
  ) (
    C.call n_impl_ValidEntries [(.slice x1.a x1.n x1.c)] [.bool] fun r24 =>
    cond (!r24) (
      C.pur (Instr.build ty_impl_Store #[]) .agg fun y27 =>
      C.st 1 (Addr.mk b4 0 none) (.agg y27) <|
      C.st 32 (Addr.mk b5 0 none) (.agg (Array.replicate 32 (.int .u8 0))) <|
      C.ld .agg 1 (Addr.mk b4 0 none) fun z11 =>
      C.ld .agg 32 (Addr.mk b5 0 none) fun z12 =>
      C.ret (.tuple #[(.agg z11), (.agg z12), (.int .i64 1)])
    ) (
      jt []
    )
  )
theorem impl_StoreMap_eq (C : Comb) (x0 : Array Value) (x1 : Sl) : fT C Tryz.prog { loop := [(6, [(9, .slice), (33, (.int .i64))])], join := [(78, [])], anyOrder := [13], pure := [] } n_impl_StoreMap [(.agg x0), (.slice x1.a x1.n x1.c)] = impl_StoreMap C x0 x1 := by kernel_rfl
theorem impl_StoreMap_calls {R : Value → World → Prop} {w : World} (x0 : Array Value) (x1 : Sl) (h : (impl_StoreMap (real Tryz.prog R) x0 x1 : World → Prop) w) :
    Calls Tryz.prog n_impl_StoreMap [(.agg x0), (.slice x1.a x1.n x1.c)].toArray w fun e w' => ∃ v, e = .returned v ∧ R v w' := fT_sound mixed { loop := [(6, [(9, .slice), (33, (.int .i64))])], join := [(78, [])], anyOrder := [13], pure := [] } (by rw [impl_StoreMap_eq]; exact h)

/-- laws.eqEntryS (41) -/
def laws_eqEntryS (C : Comb) (x0 : Sl) (x1 : Sl) : C.St :=
  cond ((x0.n : Int) != (x1.n : Int)) (
    C.ret (.bool false)
  ) (
    C.loop (TL [(.int .i64)]) (embL [(.int .i64)]) [(.int .i64 0)] fun s1 ct1 => C.any fun _ =>
    cond (decide (s1 < (x0.n : Int))) (
      C.draw <|
      C.ix x0.a x0.n 2 s1 fun p19 =>
      C.ld .agg 2 p19 fun v20 =>
      C.ix x1.a x1.n 2 s1 fun p23 =>
      C.ld .agg 2 p23 fun v24 =>
      C.call n_laws_eqEntry [(.agg v20), (.agg v24)] [.bool] fun r25 =>
      cond (!r25) (
        C.ret (.bool false)
      ) (
        ct1 [(.int .i64 (IntKind.wrap .i64 (s1 + 1)))]
      )
    ) (
      C.ret (.bool true)
    )
  )
theorem laws_eqEntryS_eq (C : Comb) (x0 : Sl) (x1 : Sl) : fT C Tryz.prog { loop := [(4, [(5, (.int .i64))])], join := [], anyOrder := [6], pure := [] } n_laws_eqEntryS [(.slice x0.a x0.n x0.c), (.slice x1.a x1.n x1.c)] = laws_eqEntryS C x0 x1 := by kernel_rfl
theorem laws_eqEntryS_calls {R : Value → World → Prop} {w : World} (x0 : Sl) (x1 : Sl) (h : (laws_eqEntryS (real Tryz.prog R) x0 x1 : World → Prop) w) :
    Calls Tryz.prog n_laws_eqEntryS [(.slice x0.a x0.n x0.c), (.slice x1.a x1.n x1.c)].toArray w fun e w' => ∃ v, e = .returned v ∧ R v w' := fT_sound mixed { loop := [(4, [(5, (.int .i64))])], join := [], anyOrder := [6], pure := [] } (by rw [laws_eqEntryS_eq]; exact h)

/-- laws.markEntryS (42) -/
def laws_markEntryS (C : Comb) (x0 : Sl) (x1 : Int) : C.St :=
  C.loop (TL [(.int .i64), (.int .i64)]) (embL [(.int .i64), (.int .i64)]) [(.int .i64 x1), (.int .i64 0)] fun s1 ct1 => C.any fun _ =>
  cond (decide (s1.2 < (x0.n : Int))) (
    C.call n_laws_markText [(.int .i64 s1.1)] [.str] fun r15 =>
    C.ix x0.a x0.n 2 s1.2 fun p16 =>
    C.st 1 (p16.add 0) (.string r15) <|
    C.call n_laws_markText [(.int .i64 (IntKind.wrap .i64 (s1.1 + 1)))] [.str] fun r23 =>
    C.ix x0.a x0.n 2 s1.2 fun p24 =>
    C.st 1 (p24.add 1) (.string r23) <|
    ct1 [(.int .i64 (IntKind.wrap .i64 ((IntKind.wrap .i64 (s1.1 + 1)) + 1))), (.int .i64 (IntKind.wrap .i64 (s1.2 + 1)))]
  ) (
    C.ret (.int .i64 s1.1)
  )
theorem laws_markEntryS_eq (C : Comb) (x0 : Sl) (x1 : Int) : fT C Tryz.prog { loop := [(2, [(1, (.int .i64)), (5, (.int .i64))])], join := [], anyOrder := [], pure := [] } n_laws_markEntryS [(.slice x0.a x0.n x0.c), (.int .i64 x1)] = laws_markEntryS C x0 x1 := by kernel_rfl
theorem laws_markEntryS_calls {R : Value → World → Prop} {w : World} (x0 : Sl) (x1 : Int) (h : (laws_markEntryS (real Tryz.prog R) x0 x1 : World → Prop) w) :
    Calls Tryz.prog n_laws_markEntryS [(.slice x0.a x0.n x0.c), (.int .i64 x1)].toArray w fun e w' => ∃ v, e = .returned v ∧ R v w' := fT_sound mixed { loop := [(2, [(1, (.int .i64)), (5, (.int .i64))])], join := [], anyOrder := [], pure := [] } (by rw [laws_markEntryS_eq]; exact h)

/-- spec.LoadMap (43) -/
def spec_LoadMap (C : Comb) (x0 : Array Value) (x1 : Array Value) : C.St :=
  C.new ty_impl_Store (.agg x0) fun b2 =>
  C.new ty_impl_Key (.agg x1) fun b3 =>
  C.new ty_impl_Key (.agg (Array.replicate 32 (.int .u8 0))) fun b5 =>
  C.call n_spec_l05Open [(.pointer (some (Addr.mk b2 0 none)))] [.optr, .bool] fun r10 =>
  cond (!r10.2) (
    C.sem (Instr.buildSlice ty_sl_impl_Entry 0 #[]) .slice fun y15 =>
    C.st 32 (Addr.mk b5 0 none) (.agg (Array.replicate 32 (.int .u8 0))) <|
    C.ld .agg 32 (Addr.mk b5 0 none) fun z6 =>
    C.ret (.tuple #[(.slice y15.a y15.n y15.c), (.agg z6), (.int .i64 1)])
  ) (
    C.ld .agg 32 (Addr.mk b3 0 none) fun v18 =>
    C.call n_spec_l05LoadMap [(.pointer r10.1), (.agg v18)] [.slice, .agg, (.int .i64)] fun r19 =>
    C.st 32 (Addr.mk b5 0 none) (.agg r19.2.1) <|
    C.ld .agg 32 (Addr.mk b5 0 none) fun z9 =>
    C.ret (.tuple #[(.slice r19.1.a r19.1.n r19.1.c), (.agg z9), (.int .i64 r19.2.2)])
  )
theorem spec_LoadMap_eq (C : Comb) (x0 : Array Value) (x1 : Array Value) : fT C Tryz.prog { loop := [], join := [], anyOrder := [], pure := [] } n_spec_LoadMap [(.agg x0), (.agg x1)] = spec_LoadMap C x0 x1 := by kernel_rfl
theorem spec_LoadMap_calls {R : Value → World → Prop} {w : World} (x0 : Array Value) (x1 : Array Value) (h : (spec_LoadMap (real Tryz.prog R) x0 x1 : World → Prop) w) :
    Calls Tryz.prog n_spec_LoadMap [(.agg x0), (.agg x1)].toArray w fun e w' => ∃ v, e = .returned v ∧ R v w' := fT_sound mixed { loop := [], join := [], anyOrder := [], pure := [] } (by rw [spec_LoadMap_eq]; exact h)

/-- impl.LoadMap (44) -/
def impl_LoadMap (C : Comb) (x0 : Array Value) (x1 : Array Value) : C.St :=
  C.new ty_impl_Store (.agg x0) fun b2 =>
  C.new ty_impl_Key (.agg x1) fun b3 =>
  C.new ty_impl_Key (.agg (Array.replicate 32 (.int .u8 0))) fun b5 =>
  C.ld .agg 1 (Addr.mk b2 0 none) fun v13 =>
  C.call n_impl_newShop [(.agg v13)] [.optr, .bool] fun r14 =>
  cond (!r14.2) (
    C.st 32 (Addr.mk b5 0 none) (.agg (Array.replicate 32 (.int .u8 0))) <|
    C.ld .agg 32 (Addr.mk b5 0 none) fun z6 =>
    C.ret (.tuple #[(.slice none 0 0), (.agg z6), (.int .i64 1)])
  ) (
    C.call n_impl_newMapper [(.pointer r14.1)] [.ptr] fun r21 =>
    C.ld .agg 32 (Addr.mk b3 0 none) fun v24 =>
    C.call n_ptr_impl_mapper_load [(.pointer (some r21)), (.agg v24)] [.slice, (.int .i64)] fun r25 =>
    C.draw <|
    C.ld .agg 32 (r21.add 35) fun v32 =>
    C.st 32 (Addr.mk b5 0 none) (.agg v32) <|
    C.ld .agg 32 (Addr.mk b5 0 none) fun z11 =>
    C.ret (.tuple #[(.slice r25.1.a r25.1.n r25.1.c), (.agg z11), (.int .i64 r25.2)])
  )
theorem impl_LoadMap_eq (C : Comb) (x0 : Array Value) (x1 : Array Value) : fT C Tryz.prog { loop := [], join := [], anyOrder := [6], pure := [] } n_impl_LoadMap [(.agg x0), (.agg x1)] = impl_LoadMap C x0 x1 := by kernel_rfl
theorem impl_LoadMap_calls {R : Value → World → Prop} {w : World} (x0 : Array Value) (x1 : Array Value) (h : (impl_LoadMap (real Tryz.prog R) x0 x1 : World → Prop) w) :
    Calls Tryz.prog n_impl_LoadMap [(.agg x0), (.agg x1)].toArray w fun e w' => ∃ v, e = .returned v ∧ R v w' := fT_sound mixed { loop := [], join := [], anyOrder := [6], pure := [] } (by rw [impl_LoadMap_eq]; exact h)

/-- laws.heldEntryS (45) -/
def laws_heldEntryS (C : Comb) (x0 : Sl) (x1 : Int) : C.St :=
  C.loop (TL [(.int .i64), (.int .i64)]) (embL [(.int .i64), (.int .i64)]) [(.int .i64 x1), (.int .i64 0)] fun s1 ct1 => C.any fun _ =>
  cond (decide (s1.2 < (x0.n : Int))) (
    C.join (TL []) (embL []) (fun s6 => C.any fun _ =>
        C.draw <|
        C.ix x0.a x0.n 2 s1.2 fun p24 =>
        C.ld .str 1 (p24.add 1) fun v26 =>
        C.call n_laws_markText [(.int .i64 (IntKind.wrap .i64 (s1.1 + 1)))] [.str] fun r28 =>
        C.chk [⟨4, 1, (p24.add 1), .str, v26⟩] <|
        C.pur (eqB .neq ty_string (.tmp 26) (.tmp 28) (.string v26) (.string r28)) .bool fun y29 =>
        cond y29 (
          C.ret (.int .i64 (-1))
        ) (
          ct1 [(.int .i64 (IntKind.wrap .i64 ((IntKind.wrap .i64 (s1.1 + 1)) + 1))), (.int .i64 (IntKind.wrap .i64 (s1.2 + 1)))]
        )
      ) fun jt =>
    C.draw <|
    C.ix x0.a x0.n 2 s1.2 fun p14 =>
    C.ld .str 1 (p14.add 0) fun v16 =>
    C.call n_laws_markText [(.int .i64 s1.1)] [.str] fun r18 =>
    C.chk [⟨4, 1, (p14.add 0), .str, v16⟩] <|
    C.pur (eqB .neq ty_string (.tmp 16) (.tmp 18) (.string v16) (.string r18)) .bool fun y19 =>
    cond y19 (
      C.ret (.int .i64 (-1))
    ) (
      jt []
    )
  ) (
    C.ret (.int .i64 s1.1)
  )
theorem laws_heldEntryS_eq (C : Comb) (x0 : Sl) (x1 : Int) : fT C Tryz.prog { loop := [(2, [(1, (.int .i64)), (5, (.int .i64))])], join := [(57, [])], anyOrder := [4, 7], pure := [] } n_laws_heldEntryS [(.slice x0.a x0.n x0.c), (.int .i64 x1)] = laws_heldEntryS C x0 x1 := by kernel_rfl
theorem laws_heldEntryS_calls {R : Value → World → Prop} {w : World} (x0 : Sl) (x1 : Int) (h : (laws_heldEntryS (real Tryz.prog R) x0 x1 : World → Prop) w) :
    Calls Tryz.prog n_laws_heldEntryS [(.slice x0.a x0.n x0.c), (.int .i64 x1)].toArray w fun e w' => ∃ v, e = .returned v ∧ R v w' := fT_sound mixed { loop := [(2, [(1, (.int .i64)), (5, (.int .i64))])], join := [(57, [])], anyOrder := [4, 7], pure := [] } (by rw [laws_heldEntryS_eq]; exact h)

/-- spec.GetPartial (46) -/
def spec_GetPartial (C : Comb) (x0 : Array Value) (x1 : Array Value) (x2 : ByteArray) : C.St :=
  C.new ty_impl_Store (.agg x0) fun b3 =>
  C.new ty_impl_Key (.agg x1) fun b4 =>
  C.new ty_impl_Key (.agg (Array.replicate 32 (.int .u8 0))) fun b7 =>
  C.call n_spec_l05Open [(.pointer (some (Addr.mk b3 0 none)))] [.optr, .bool] fun r12 =>
  C.join (TL []) (embL []) (fun s8 => C.any fun _ =>
      C.ld .agg 32 (Addr.mk b4 0 none) fun v24 =>
      C.call n_spec_l08Get [(.pointer r12.1), (.agg v24), (.string x2)] [.str, .agg, (.int .i64)] fun r26 =>
      C.st 32 (Addr.mk b7 0 none) (.agg r26.2.1) <|
      C.ld .agg 32 (Addr.mk b7 0 none) fun z11 =>
      C.ret (.tuple #[(.string r26.1), (.agg z11), (.int .i64 r26.2.2)])
    ) fun jt =>
  cond (!r12.2) (
    C.st 32 (Addr.mk b7 0 none) (.agg (Array.replicate 32 (.int .u8 0))) <|
    C.ld .agg 32 (Addr.mk b7 0 none) fun z5 =>
    C.ret (.tuple #[(.string (⟨#[]⟩ : ByteArray)), (.agg z5), (.int .i64 1)])
  ) (
    C.call n_spec_l04Name [(.string x2)] [.bool] fun r19 =>
    cond (!r19) (
      C.st 32 (Addr.mk b7 0 none) (.agg (Array.replicate 32 (.int .u8 0))) <|
      C.ld .agg 32 (Addr.mk b7 0 none) fun z7 =>
      C.ret (.tuple #[(.string (⟨#[]⟩ : ByteArray)), (.agg z7), (.int .i64 1)])
    ) (
      jt []
    )
  )
theorem spec_GetPartial_eq (C : Comb) (x0 : Array Value) (x1 : Array Value) (x2 : ByteArray) : fT C Tryz.prog { loop := [], join := [(63, [])], anyOrder := [], pure := [] } n_spec_GetPartial [(.agg x0), (.agg x1), (.string x2)] = spec_GetPartial C x0 x1 x2 := by kernel_rfl
theorem spec_GetPartial_calls {R : Value → World → Prop} {w : World} (x0 : Array Value) (x1 : Array Value) (x2 : ByteArray) (h : (spec_GetPartial (real Tryz.prog R) x0 x1 x2 : World → Prop) w) :
    Calls Tryz.prog n_spec_GetPartial [(.agg x0), (.agg x1), (.string x2)].toArray w fun e w' => ∃ v, e = .returned v ∧ R v w' := fT_sound mixed { loop := [], join := [(63, [])], anyOrder := [], pure := [] } (by rw [spec_GetPartial_eq]; exact h)

/-- impl.GetPartial (47) -/
def impl_GetPartial (C : Comb) (x0 : Array Value) (x1 : Array Value) (x2 : ByteArray) : C.St :=
  C.new ty_impl_Store (.agg x0) fun b3 =>
  C.new ty_impl_Key (.agg x1) fun b4 =>
  C.new ty_impl_Key (.agg (Array.replicate 32 (.int .u8 0))) fun b7 =>
  C.ld .agg 1 (Addr.mk b3 0 none) fun v12 =>
  C.call n_impl_newShop [(.agg v12)] [.optr, .bool] fun r13 =>
  C.join (TL []) (embL []) (fun s9 => C.any fun _ =>
      C.ld .agg 32 (Addr.mk b4 0 none) fun v25 =>
      C.call n_ptr_impl_shop_partial [(.pointer r13.1), (.agg v25), (.string x2)] [.str, .agg, (.int .i64)] fun r27 =>
      C.st 32 (Addr.mk b7 0 none) (.agg r27.2.1) <|
      C.ld .agg 32 (Addr.mk b7 0 none) fun z12 =>
      C.ret (.tuple #[(.string r27.1), (.agg z12), (.int .i64 r27.2.2)])
    ) fun jt =>
  cond (!r13.2) (
    C.st 32 (Addr.mk b7 0 none) (.agg (Array.replicate 32 (.int .u8 0))) <|
    C.ld .agg 32 (Addr.mk b7 0 none) fun z6 =>
    C.ret (.tuple #[(.string (⟨#[]⟩ : ByteArray)), (.agg z6), (.int .i64 1)])
  ) (
    C.call n_impl_isName [(.string x2)] [.bool] fun r20 =>
    cond (!r20) (
      C.st 32 (Addr.mk b7 0 none) (.agg (Array.replicate 32 (.int .u8 0))) <|
      C.ld .agg 32 (Addr.mk b7 0 none) fun z8 =>
      C.ret (.tuple #[(.string (⟨#[]⟩ : ByteArray)), (.agg z8), (.int .i64 1)])
    ) (
      jt []
    )
  )
theorem impl_GetPartial_eq (C : Comb) (x0 : Array Value) (x1 : Array Value) (x2 : ByteArray) : fT C Tryz.prog { loop := [], join := [(66, [])], anyOrder := [], pure := [] } n_impl_GetPartial [(.agg x0), (.agg x1), (.string x2)] = impl_GetPartial C x0 x1 x2 := by kernel_rfl
theorem impl_GetPartial_calls {R : Value → World → Prop} {w : World} (x0 : Array Value) (x1 : Array Value) (x2 : ByteArray) (h : (impl_GetPartial (real Tryz.prog R) x0 x1 x2 : World → Prop) w) :
    Calls Tryz.prog n_impl_GetPartial [(.agg x0), (.agg x1), (.string x2)].toArray w fun e w' => ∃ v, e = .returned v ∧ R v w' := fT_sound mixed { loop := [], join := [(66, [])], anyOrder := [], pure := [] } (by rw [impl_GetPartial_eq]; exact h)

/-- spec.RangePartial (48) -/
def spec_RangePartial (C : Comb) (x0 : Array Value) (x1 : Array Value) (x2 : ByteArray) (x3 : ByteArray) : C.St :=
  C.new ty_impl_Store (.agg x0) fun b4 =>
  C.new ty_impl_Key (.agg x1) fun b5 =>
  C.new ty_impl_Key (.agg (Array.replicate 32 (.int .u8 0))) fun b9 =>
  C.call n_spec_l05Open [(.pointer (some (Addr.mk b4 0 none)))] [.optr, .bool] fun r15 =>
  cond (!r15.2) (
    C.sem (Instr.buildSlice ty_sl_impl_Entry 0 #[]) .slice fun y20 =>
    C.st 32 (Addr.mk b9 0 none) (.agg (Array.replicate 32 (.int .u8 0))) <|
    C.ld .agg 32 (Addr.mk b9 0 none) fun z6 =>
    C.ret (.tuple #[(.slice y20.a y20.n y20.c), (.agg z6), (.int .i64 1)])
  ) (
    C.sem (Instr.buildSlice ty_sl_impl_Entry 0 #[]) .slice fun y25 =>
    C.pur (Instr.build ty_spec_l08Walk #[(0, (.pointer r15.1)), (1, (.string x2)), (2, (.string x3)), (3, (.slice y25.a y25.n y25.c))]) .agg fun y26 =>
    C.new ty_spec_l08Walk (.agg y26) fun b27 =>
    C.ld .agg 32 (Addr.mk b5 0 none) fun v29 =>
    C.call n_ptr_spec_l08Walk_tree [(.pointer (some (Addr.mk b27 0 none))), (.agg v29)] [] fun r30 =>
    C.ld (.int .i64) 1 ((Addr.mk b27 0 none).add 37) fun v34 =>
    cond (v34 != 0) (
      C.draw <|
      C.ld .agg 32 ((Addr.mk b27 0 none).add 5) fun v40 =>
      C.ld (.int .i64) 1 ((Addr.mk b27 0 none).add 37) fun v44 =>
      C.sem (Instr.buildSlice ty_sl_impl_Entry 0 #[]) .slice fun y36 =>
      C.chk [⟨8, 1, ((Addr.mk b27 0 none).add 37), (.int .i64), v44⟩, ⟨4, 32, ((Addr.mk b27 0 none).add 5), .agg, v40⟩] <|
      C.st 32 (Addr.mk b9 0 none) (.agg v40) <|
      C.chk [⟨8, 1, ((Addr.mk b27 0 none).add 37), (.int .i64), v44⟩] <|
      C.ld .agg 32 (Addr.mk b9 0 none) fun z16 =>
      C.ret (.tuple #[(.slice y36.a y36.n y36.c), (.agg z16), (.int .i64 v44)])
    ) (
      C.ld .slice 1 ((Addr.mk b27 0 none).add 3) fun v48 =>
      C.st 32 (Addr.mk b9 0 none) (.agg (Array.replicate 32 (.int .u8 0))) <|
      C.ld .agg 32 (Addr.mk b9 0 none) fun z18 =>
      C.ret (.tuple #[(.slice v48.a v48.n v48.c), (.agg z18), (.int .i64 0)])
    )
  )
theorem spec_RangePartial_eq (C : Comb) (x0 : Array Value) (x1 : Array Value) (x2 : ByteArray) (x3 : ByteArray) : fT C Tryz.prog { loop := [], join := [], anyOrder := [7], pure := [] } n_spec_RangePartial [(.agg x0), (.agg x1), (.string x2), (.string x3)] = spec_RangePartial C x0 x1 x2 x3 := by kernel_rfl
theorem spec_RangePartial_calls {R : Value → World → Prop} {w : World} (x0 : Array Value) (x1 : Array Value) (x2 : ByteArray) (x3 : ByteArray) (h : (spec_RangePartial (real Tryz.prog R) x0 x1 x2 x3 : World → Prop) w) :
    Calls Tryz.prog n_spec_RangePartial [(.agg x0), (.agg x1), (.string x2), (.string x3)].toArray w fun e w' => ∃ v, e = .returned v ∧ R v w' := fT_sound mixed { loop := [], join := [], anyOrder := [7], pure := [] } (by rw [spec_RangePartial_eq]; exact h)

/-- impl.RangePartial (49) -/
def impl_RangePartial (C : Comb) (x0 : Array Value) (x1 : Array Value) (x2 : ByteArray) (x3 : ByteArray) : C.St :=
  C.new ty_impl_Store (.agg x0) fun b4 =>
  C.new ty_impl_Key (.agg x1) fun b5 =>
  C.new ty_string (.string x2) fun b6 =>
  C.new ty_string (.string x3) fun b7 =>
  C.new ty_impl_Key (.agg (Array.replicate 32 (.int .u8 0))) fun b9 =>
  C.ld .agg 1 (Addr.mk b4 0 none) fun v17 =>
  C.call n_impl_newShop [(.agg v17)] [.optr, .bool] fun r18 =>
  cond (!r18.2) (
    C.st 32 (Addr.mk b9 0 none) (.agg (Array.replicate 32 (.int .u8 0))) <|
    C.ld .agg 32 (Addr.mk b9 0 none) fun z8 =>
    C.ret (.tuple #[(.slice none 0 0), (.agg z8), (.int .i64 1)])
  ) (
    C.call n_impl_copyMapper [(.pointer r18.1)] [.ptr] fun r25 =>
    C.sem (Instr.buildSlice ty_sl_impl_Entry 0 #[]) .slice fun y26 =>
    C.new ty_sl_impl_Entry (.slice none 0 0) fun b14 =>
    C.st 1 (Addr.mk b14 0 none) (.slice y26.a y26.n y26.c) <|
    C.ld .agg 32 (Addr.mk b5 0 none) fun v28 =>
    C.call n_ptr_impl_mapper_walk [(.pointer (some r25)), (.agg v28), (.pointer none), (.pointer none), (.func (.func n_impl_RangePartial_1) #[] #[(.pointer (some (Addr.mk b6 0 none)))]), (.func (.func n_impl_RangePartial_2) #[] #[(.pointer (some (Addr.mk b7 0 none)))]), (.func (.func n_impl_RangePartial_3) #[] #[]), (.func (.func n_impl_RangePartial_4) #[] #[(.pointer (some (Addr.mk b6 0 none))), (.pointer (some (Addr.mk b7 0 none))), (.pointer (some (Addr.mk b14 0 none)))])] [(.int .i64)] fun r32 =>
    cond (r32 != 0) (
      C.draw <|
      C.ld .agg 32 (r25.add 35) fun v38 =>
      C.callP n_impl_toldCode [(.int .i64 r32)] [(.int .i64)] fun r40 =>
      C.st 32 (Addr.mk b9 0 none) (.agg v38) <|
      C.ld .agg 32 (Addr.mk b9 0 none) fun z16 =>
      C.ret (.tuple #[(.slice none 0 0), (.agg z16), (.int .i64 r40)])
    ) (
      C.ld .slice 1 (Addr.mk b14 0 none) fun v41 =>
      C.st 32 (Addr.mk b9 0 none) (.agg (Array.replicate 32 (.int .u8 0))) <|
      C.ld .agg 32 (Addr.mk b9 0 none) fun z18 =>
      C.ret (.tuple #[(.slice v41.a v41.n v41.c), (.agg z18), (.int .i64 0)])
    )
  )
theorem impl_RangePartial_eq (C : Comb) (x0 : Array Value) (x1 : Array Value) (x2 : ByteArray) (x3 : ByteArray) : fT C Tryz.prog { loop := [], join := [], anyOrder := [7], pure := [104] } n_impl_RangePartial [(.agg x0), (.agg x1), (.string x2), (.string x3)] = impl_RangePartial C x0 x1 x2 x3 := by kernel_rfl
theorem impl_RangePartial_calls {R : Value → World → Prop} {w : World} (x0 : Array Value) (x1 : Array Value) (x2 : ByteArray) (x3 : ByteArray) (h : (impl_RangePartial (real Tryz.prog R) x0 x1 x2 x3 : World → Prop) w) :
    Calls Tryz.prog n_impl_RangePartial [(.agg x0), (.agg x1), (.string x2), (.string x3)].toArray w fun e w' => ∃ v, e = .returned v ∧ R v w' := fT_sound mixed { loop := [], join := [], anyOrder := [7], pure := [104] } (by rw [impl_RangePartial_eq]; exact h)

/-- laws.szBlobS (50) -/
def laws_szBlobS (C : Comb) (x0 : Sl) (x1 : Int) : C.St :=
  cond (decide ((IntKind.wrap .i64 (x1 - (x0.n : Int))) < 0)) (
    C.ret (.int .i64 (-1))
  ) (
    C.loop (TL [(.int .i64), (.int .i64)]) (embL [(.int .i64), (.int .i64)]) [(.int .i64 (IntKind.wrap .i64 (x1 - (x0.n : Int)))), (.int .i64 0)] fun s1 ct1 => C.any fun _ =>
    cond (decide (s1.2 < (x0.n : Int))) (
      C.ix x0.a x0.n 2 s1.2 fun p20 =>
      C.ld .agg 2 p20 fun v21 =>
      C.call n_laws_szBlob [(.agg v21), (.int .i64 s1.1)] [(.int .i64)] fun r23 =>
      cond (decide (r23 < 0)) (
        C.ret (.int .i64 (-1))
      ) (
        ct1 [(.int .i64 r23), (.int .i64 (IntKind.wrap .i64 (s1.2 + 1)))]
      )
    ) (
      C.ret (.int .i64 s1.1)
    )
  )
theorem laws_szBlobS_eq (C : Comb) (x0 : Sl) (x1 : Int) : fT C Tryz.prog { loop := [(5, [(1, (.int .i64)), (5, (.int .i64))])], join := [], anyOrder := [], pure := [] } n_laws_szBlobS [(.slice x0.a x0.n x0.c), (.int .i64 x1)] = laws_szBlobS C x0 x1 := by kernel_rfl
theorem laws_szBlobS_calls {R : Value → World → Prop} {w : World} (x0 : Sl) (x1 : Int) (h : (laws_szBlobS (real Tryz.prog R) x0 x1 : World → Prop) w) :
    Calls Tryz.prog n_laws_szBlobS [(.slice x0.a x0.n x0.c), (.int .i64 x1)].toArray w fun e w' => ∃ v, e = .returned v ∧ R v w' := fT_sound mixed { loop := [(5, [(1, (.int .i64)), (5, (.int .i64))])], join := [], anyOrder := [], pure := [] } (by rw [laws_szBlobS_eq]; exact h)

/-- spec.l05Open (51) -/
def spec_l05Open (C : Comb) (x0 : Addr) : C.St :=
  C.pur (Instr.build ty_spec_l05Store #[]) .agg fun y7 =>
  C.new ty_spec_l05Store (.agg y7) fun b8 =>
  C.ld .slice 1 (x0.add 0) fun v12 =>
  cond (decide ((v12.n : Int) > 128)) (
    C.ret (.tuple #[(.pointer (some (Addr.mk b8 0 none))), (.bool false)])
  ) (
    C.loop (TL [(.int .i64)]) (embL [(.int .i64)]) [(.int .i64 0)] fun s4 ct4 => C.any fun _ =>
    C.ld .slice 1 (x0.add 0) fun v20 =>
    cond (decide (s4 < (v20.n : Int))) (
      C.ld .slice 1 (x0.add 0) fun v28 =>
      C.ix v28.a v28.n 2 s4 fun p30 =>
      C.call n_spec_l05Blob [(.pointer (some p30))] [.bool] fun r31 =>
      cond (!r31) (
        C.ret (.tuple #[(.pointer (some (Addr.mk b8 0 none))), (.bool false)])
      ) (
        C.ld .slice 1 (x0.add 0) fun v37 =>
        C.ix v37.a v37.n 2 s4 fun p39 =>
        C.call n_spec_l05Key [(.pointer (some p39))] [.agg] fun r40 =>
        C.new ty_impl_Key (.agg (Array.replicate 32 (.int .u8 0))) fun b6 =>
        C.st 32 (Addr.mk b6 0 none) (.agg r40) <|
        C.join (TL []) (embL []) (fun s26 => C.any fun _ =>
            C.join (TL []) (embL []) (fun s33 => C.any fun _ =>
                C.draw <|
                C.ld .slice 1 ((Addr.mk b8 0 none).add 1) fun v77 =>
                C.ld .agg 32 (Addr.mk b6 0 none) fun v78 =>
                C.sem (Instr.buildSlice ty_sl_impl_Key 1 #[(0, (.agg v78))]) .slice fun y79 =>
                C.chk [⟨4, 1, ((Addr.mk b8 0 none).add 1), .slice, v77⟩] <|
                C.sem (Builtin.append_ #[ty_sl_impl_Key, ty_sl_impl_Key] ty_sl_impl_Key #[(.slice v77.a v77.n v77.c), (.slice y79.a y79.n y79.c)]) .slice fun y80 =>
                C.st 1 ((Addr.mk b8 0 none).add 1) (.slice y80.a y80.n y80.c) <|
                ct4 [(.int .i64 (IntKind.wrap .i64 (s4 + 1)))]
              ) fun jt =>
            C.draw <|
            C.ld .slice 1 ((Addr.mk b8 0 none).add 0) fun v61 =>
            C.ld .slice 1 (x0.add 0) fun v65 =>
            C.ix v65.a v65.n 2 s4 fun p67 =>
            C.ld .agg 2 p67 fun v68 =>
            C.sem (Instr.buildSlice ty_sl_impl_Blob 1 #[(0, (.agg v68))]) .slice fun y69 =>
            C.chk [⟨8, 1, (x0.add 0), .slice, v65⟩, ⟨4, 1, ((Addr.mk b8 0 none).add 0), .slice, v61⟩] <|
            C.sem (Builtin.append_ #[ty_sl_impl_Blob, ty_sl_impl_Blob] ty_sl_impl_Blob #[(.slice v61.a v61.n v61.c), (.slice y69.a y69.n y69.c)]) .slice fun y70 =>
            C.chk [⟨8, 1, (x0.add 0), .slice, v65⟩] <|
            C.st 1 ((Addr.mk b8 0 none).add 0) (.slice y70.a y70.n y70.c) <|
            jt []
          ) fun jt =>
        C.draw <|
        cond (decide (s4 > 0)) (
          C.all [
            (C.ld .slice 1 ((Addr.mk b8 0 none).add 1) fun v47 =>
             C.ix v47.a v47.n 32 (IntKind.wrap .i64 (s4 - 1)) fun p50 =>
             C.all [
               (C.ld .agg 32 p50 fun v51 =>
                C.ld .agg 32 (Addr.mk b6 0 none) fun v52 =>
                C.call n_spec_l01Compare [(.agg v51), (.agg v52)] [(.int .i64)] fun r53 =>
                cond (decide (r53 ≥ 0)) (
                  C.ret (.tuple #[(.pointer (some (Addr.mk b8 0 none))), (.bool false)])
                ) (
                  jt []
                )),
               (C.ld .agg 32 (Addr.mk b6 0 none) fun v52 =>
                C.ld .agg 32 p50 fun v51 =>
                C.call n_spec_l01Compare [(.agg v51), (.agg v52)] [(.int .i64)] fun r53 =>
                cond (decide (r53 ≥ 0)) (
                  C.ret (.tuple #[(.pointer (some (Addr.mk b8 0 none))), (.bool false)])
                ) (
                  jt []
                ))]),
            (C.ld .agg 32 (Addr.mk b6 0 none) fun v52 =>
             C.ld .slice 1 ((Addr.mk b8 0 none).add 1) fun v47 =>
             C.ix v47.a v47.n 32 (IntKind.wrap .i64 (s4 - 1)) fun p50 =>
             C.ld .agg 32 p50 fun v51 =>
             C.call n_spec_l01Compare [(.agg v51), (.agg v52)] [(.int .i64)] fun r53 =>
             cond (decide (r53 ≥ 0)) (
               C.ret (.tuple #[(.pointer (some (Addr.mk b8 0 none))), (.bool false)])
             ) (
               jt []
             ))]
        ) (
          C.all [
            (C.all [
               (jt []),
               (jt [])]),
            (jt [])]
        )
      )
    ) (
      C.ret (.tuple #[(.pointer (some (Addr.mk b8 0 none))), (.bool true)])
    )
  )
theorem spec_l05Open_eq (C : Comb) (x0 : Addr) : fT C Tryz.prog { loop := [(5, [(5, (.int .i64))])], join := [(165, []), (37, [])], anyOrder := [10, 12, 13], pure := [] } n_spec_l05Open [(.pointer (some x0))] = spec_l05Open C x0 := by kernel_rfl
theorem spec_l05Open_calls {R : Value → World → Prop} {w : World} (x0 : Addr) (h : (spec_l05Open (real Tryz.prog R) x0 : World → Prop) w) :
    Calls Tryz.prog n_spec_l05Open [(.pointer (some x0))].toArray w fun e w' => ∃ v, e = .returned v ∧ R v w' := fT_sound mixed { loop := [(5, [(5, (.int .i64))])], join := [(165, []), (37, [])], anyOrder := [10, 12, 13], pure := [] } (by rw [spec_l05Open_eq]; exact h)

/-- spec.l08Leaf (52) -/
def spec_l08Leaf (C : Comb) (x0 : Int) (x1 : Int) : C.St :=
  C.call n_spec_l00In [(.int .i64 x0), (.int .i64 1), (.int .i64 256)] [.bool] fun r6 =>
  cond r6 (
    C.call n_spec_l00In [(.int .i64 x1), (.int .i64 0), (.int .i64 (IntKind.wrap .i64 (x0 - 1)))] [.bool] fun r11 =>
    C.ret (.bool r11)
  ) (
    C.ret (.bool false)
  )
theorem spec_l08Leaf_eq (C : Comb) (x0 : Int) (x1 : Int) : fT C Tryz.prog { loop := [], join := [], anyOrder := [], pure := [] } n_spec_l08Leaf [(.int .i64 x0), (.int .i64 x1)] = spec_l08Leaf C x0 x1 := by kernel_rfl
theorem spec_l08Leaf_calls {R : Value → World → Prop} {w : World} (x0 : Int) (x1 : Int) (h : (spec_l08Leaf (real Tryz.prog R) x0 x1 : World → Prop) w) :
    Calls Tryz.prog n_spec_l08Leaf [(.int .i64 x0), (.int .i64 x1)].toArray w fun e w' => ∃ v, e = .returned v ∧ R v w' := fT_sound mixed { loop := [], join := [], anyOrder := [], pure := [] } (by rw [spec_l08Leaf_eq]; exact h)

/-- spec.l08Chunk (53) -/
def spec_l08Chunk (C : Comb) (x0 : Addr) (x1 : Array Value) (x2 : Int) (x3 : Int) : C.St :=
  C.new ty_impl_Key (.agg x1) fun b5 =>
  C.new ty_impl_Key (.agg (Array.replicate 32 (.int .u8 0))) fun b10 =>
  C.sem (Instr.buildSlice ty_sl_impl_Key 0 #[]) .slice fun y18 =>
  C.ld .agg 32 (Addr.mk b5 0 none) fun v19 =>
  C.new ty_impl_Key (.agg (Array.replicate 32 (.int .u8 0))) fun b13 =>
  C.st 32 (Addr.mk b13 0 none) (.agg v19) <|
  C.loop (TL [(.int .i64), (.int .i64), .slice]) (embL [(.int .i64), (.int .i64), .slice]) [(.int .i64 x2), (.int .i64 x3), (.slice y18.a y18.n y18.c)] fun s6 ct6 => C.any fun _ =>
  C.ld .agg 32 (Addr.mk b13 0 none) fun v21 =>
  C.call n_ptr_spec_l05Store_find [(.pointer (some x0)), (.agg v21)] [(.int .i64)] fun r22 =>
  cond (decide (r22 < 0)) (
    C.draw <|
    C.ld .agg 32 (Addr.mk b13 0 none) fun v27 =>
    C.all [
      (C.sem (Instr.buildSlice ty_sl_uint8 0 #[]) .slice fun y25 =>
       C.chk [⟨2, 32, (Addr.mk b13 0 none), .agg, v27⟩] <|
       C.sem (Instr.buildSlice ty_sl_impl_Key 0 #[]) .slice fun y26 =>
       C.chk [⟨2, 32, (Addr.mk b13 0 none), .agg, v27⟩] <|
       C.st 32 (Addr.mk b10 0 none) (.agg v27) <|
       C.ld .agg 32 (Addr.mk b10 0 none) fun z12 =>
       C.ret (.tuple #[(.slice y25.a y25.n y25.c), (.slice y26.a y26.n y26.c), (.agg z12), (.int .i64 4)])),
      (C.sem (Instr.buildSlice ty_sl_impl_Key 0 #[]) .slice fun y26 =>
       C.chk [⟨2, 32, (Addr.mk b13 0 none), .agg, v27⟩] <|
       C.sem (Instr.buildSlice ty_sl_uint8 0 #[]) .slice fun y25 =>
       C.chk [⟨2, 32, (Addr.mk b13 0 none), .agg, v27⟩] <|
       C.st 32 (Addr.mk b10 0 none) (.agg v27) <|
       C.ld .agg 32 (Addr.mk b10 0 none) fun z15 =>
       C.ret (.tuple #[(.slice y25.a y25.n y25.c), (.slice y26.a y26.n y26.c), (.agg z15), (.int .i64 4)]))]
  ) (
    C.ld .slice 1 (x0.add 0) fun v31 =>
    C.ix v31.a v31.n 2 r22 fun p33 =>
    cond (s6.1 == 1) (
      C.ld (.int .u8) 1 (p33.add 0) fun v39 =>
      cond (v39 != 1) (
        C.sem (Instr.buildSlice ty_sl_uint8 0 #[]) .slice fun y41 =>
        C.sem (Instr.buildSlice ty_sl_impl_Key 0 #[]) .slice fun y42 =>
        C.st 32 (Addr.mk b10 0 none) (.agg (Array.replicate 32 (.int .u8 0))) <|
        C.ld .agg 32 (Addr.mk b10 0 none) fun z21 =>
        C.ret (.tuple #[(.slice y41.a y41.n y41.c), (.slice y42.a y42.n y42.c), (.agg z21), (.int .i64 8)])
      ) (
        C.sem (Instr.buildSlice ty_sl_uint8 0 #[]) .slice fun y44 =>
        C.ld .slice 1 (p33.add 1) fun v48 =>
        C.sem (Builtin.append_ #[ty_sl_uint8, ty_sl_uint8] ty_sl_uint8 #[(.slice y44.a y44.n y44.c), (.slice v48.a v48.n v48.c)]) .slice fun y49 =>
        C.st 32 (Addr.mk b10 0 none) (.agg (Array.replicate 32 (.int .u8 0))) <|
        C.ld .agg 32 (Addr.mk b10 0 none) fun z25 =>
        C.ret (.tuple #[(.slice y49.a y49.n y49.c), (.slice s6.2.2.a s6.2.2.n s6.2.2.c), (.agg z25), (.int .i64 0)])
      )
    ) (
      C.join (TL [.bool]) (embL [.bool]) (fun s28 => C.any fun _ =>
          cond s28 (
            C.sem (Instr.buildSlice ty_sl_uint8 0 #[]) .slice fun y65 =>
            C.sem (Instr.buildSlice ty_sl_impl_Key 0 #[]) .slice fun y66 =>
            C.st 32 (Addr.mk b10 0 none) (.agg (Array.replicate 32 (.int .u8 0))) <|
            C.ld .agg 32 (Addr.mk b10 0 none) fun z31 =>
            C.ret (.tuple #[(.slice y65.a y65.n y65.c), (.slice y66.a y66.n y66.c), (.agg z31), (.int .i64 8)])
          ) (
            C.ld .slice 1 (p33.add 1) fun v71 =>
            C.call n_spec_l05Keys [(.slice v71.a v71.n v71.c), (.int .i64 0), (.int .i64 2)] [.slice] fun r72 =>
            C.call n_spec_l03Half [(.int .i64 s6.1)] [(.int .i64)] fun r74 =>
            cond (decide (s6.2.1 < r74)) (
              C.ix r72.a r72.n 32 0 fun p79 =>
              C.ld .agg 32 p79 fun v80 =>
              C.st 32 (Addr.mk b13 0 none) (.agg v80) <|
              C.ix r72.a r72.n 32 1 fun p82 =>
              C.ld .agg 32 p82 fun v83 =>
              C.sem (Instr.buildSlice ty_sl_impl_Key 1 #[(0, (.agg v83))]) .slice fun y84 =>
              C.sem (Builtin.append_ #[ty_sl_impl_Key, ty_sl_impl_Key] ty_sl_impl_Key #[(.slice y84.a y84.n y84.c), (.slice s6.2.2.a s6.2.2.n s6.2.2.c)]) .slice fun y86 =>
              ct6 [(.int .i64 r74), (.int .i64 s6.2.1), (.slice y86.a y86.n y86.c)]
            ) (
              C.ix r72.a r72.n 32 1 fun p89 =>
              C.ld .agg 32 p89 fun v90 =>
              C.st 32 (Addr.mk b13 0 none) (.agg v90) <|
              C.ix r72.a r72.n 32 0 fun p92 =>
              C.ld .agg 32 p92 fun v93 =>
              C.sem (Instr.buildSlice ty_sl_impl_Key 1 #[(0, (.agg v93))]) .slice fun y94 =>
              C.sem (Builtin.append_ #[ty_sl_impl_Key, ty_sl_impl_Key] ty_sl_impl_Key #[(.slice y94.a y94.n y94.c), (.slice s6.2.2.a s6.2.2.n s6.2.2.c)]) .slice fun y96 =>
              ct6 [(.int .i64 (IntKind.wrap .i64 (s6.1 - r74))), (.int .i64 (IntKind.wrap .i64 (s6.2.1 - r74))), (.slice y96.a y96.n y96.c)]
            )
          )
        ) fun jt =>
      C.ld (.int .u8) 1 (p33.add 0) fun v55 =>
      cond (v55 != 2) (
        jt [(.bool true)]
      ) (
        C.ld .slice 1 (p33.add 1) fun v61 =>
        jt [(.bool ((v61.n : Int) != 64))]
      )
    )
  )
theorem spec_l08Chunk_eq (C : Comb) (x0 : Addr) (x1 : Array Value) (x2 : Int) (x3 : Int) : fT C Tryz.prog { loop := [(3, [(2, (.int .i64)), (3, (.int .i64)), (12, .slice)])], join := [(34, [(64, .bool)])], anyOrder := [5], pure := [] } n_spec_l08Chunk [(.pointer (some x0)), (.agg x1), (.int .i64 x2), (.int .i64 x3)] = spec_l08Chunk C x0 x1 x2 x3 := by kernel_rfl
theorem spec_l08Chunk_calls {R : Value → World → Prop} {w : World} (x0 : Addr) (x1 : Array Value) (x2 : Int) (x3 : Int) (h : (spec_l08Chunk (real Tryz.prog R) x0 x1 x2 x3 : World → Prop) w) :
    Calls Tryz.prog n_spec_l08Chunk [(.pointer (some x0)), (.agg x1), (.int .i64 x2), (.int .i64 x3)].toArray w fun e w' => ∃ v, e = .returned v ∧ R v w' := fT_sound mixed { loop := [(3, [(2, (.int .i64)), (3, (.int .i64)), (12, .slice)])], join := [(34, [(64, .bool)])], anyOrder := [5], pure := [] } (by rw [spec_l08Chunk_eq]; exact h)

/-- laws.toBlobS (54) -/
def laws_toBlobS (C : Comb) (x0 : Sl) : C.St :=
  C.sem (Instr.makeSlice ty_sl_impl_Blob (.int .i64 (x0.n : Int)) (.int .i64 (x0.n : Int))) .slice fun y7 =>
  C.loop (TL [(.int .i64)]) (embL [(.int .i64)]) [(.int .i64 0)] fun s2 ct2 => C.any fun _ =>
  cond (decide (s2 < (x0.n : Int))) (
    C.ix x0.a x0.n 2 s2 fun p18 =>
    C.ld .agg 2 p18 fun v19 =>
    C.call n_laws_toBlob [(.agg v19)] [.agg] fun r20 =>
    C.ix y7.a y7.n 2 s2 fun p21 =>
    C.st 2 p21 (.agg r20) <|
    ct2 [(.int .i64 (IntKind.wrap .i64 (s2 + 1)))]
  ) (
    C.ret (.slice y7.a y7.n y7.c)
  )
theorem laws_toBlobS_eq (C : Comb) (x0 : Sl) : fT C Tryz.prog { loop := [(3, [(4, (.int .i64))])], join := [], anyOrder := [], pure := [] } n_laws_toBlobS [(.slice x0.a x0.n x0.c)] = laws_toBlobS C x0 := by kernel_rfl
theorem laws_toBlobS_calls {R : Value → World → Prop} {w : World} (x0 : Sl) (h : (laws_toBlobS (real Tryz.prog R) x0 : World → Prop) w) :
    Calls Tryz.prog n_laws_toBlobS [(.slice x0.a x0.n x0.c)].toArray w fun e w' => ∃ v, e = .returned v ∧ R v w' := fT_sound mixed { loop := [(3, [(4, (.int .i64))])], join := [], anyOrder := [], pure := [] } (by rw [laws_toBlobS_eq]; exact h)

/-- impl.openChunk (55) -/
def impl_openChunk (C : Comb) (x0 : Array Value) (x1 : Int) (x2 : Int) : C.St :=
  C.new ty_impl_Store (.agg x0) fun b3 =>
  C.ld .agg 1 (Addr.mk b3 0 none) fun v11 =>
  C.call n_impl_newShop [(.agg v11)] [.optr, .bool] fun r12 =>
  cond (!r12.2) (
    C.ret (.tuple #[(.pointer none), (.int .i64 1)])
  ) (
    C.call n_impl_isLeaves [(.int .i64 x1)] [.bool] fun r20 =>
    cond (!r20) (
      C.ret (.tuple #[(.pointer none), (.int .i64 2)])
    ) (
      C.call n_impl_within [(.int .i64 x2), (.int .i64 0), (.int .i64 (IntKind.wrap .i64 (x1 - 1)))] [.bool] fun r26 =>
      cond (!r26) (
        C.ret (.tuple #[(.pointer none), (.int .i64 2)])
      ) (
        C.ret (.tuple #[(.pointer r12.1), (.int .i64 0)])
      )
    )
  )
theorem impl_openChunk_eq (C : Comb) (x0 : Array Value) (x1 : Int) (x2 : Int) : fT C Tryz.prog { loop := [], join := [], anyOrder := [], pure := [] } n_impl_openChunk [(.agg x0), (.int .i64 x1), (.int .i64 x2)] = impl_openChunk C x0 x1 x2 := by kernel_rfl
theorem impl_openChunk_calls {R : Value → World → Prop} {w : World} (x0 : Array Value) (x1 : Int) (x2 : Int) (h : (impl_openChunk (real Tryz.prog R) x0 x1 x2 : World → Prop) w) :
    Calls Tryz.prog n_impl_openChunk [(.agg x0), (.int .i64 x1), (.int .i64 x2)].toArray w fun e w' => ∃ v, e = .returned v ∧ R v w' := fT_sound mixed { loop := [], join := [], anyOrder := [], pure := [] } (by rw [impl_openChunk_eq]; exact h)

/-- (*impl.shop).chunk (56) -/
def ptr_impl_shop_chunk (C : Comb) (x0 : Addr) (x1 : Array Value) (x2 : Int) (x3 : Int) : C.St :=
  C.new ty_impl_Key (.agg x1) fun b5 =>
  C.new ty_impl_Key (.agg (Array.replicate 32 (.int .u8 0))) fun b10 =>
  C.pur (Instr.build ty_impl_lister #[(0, (.pointer (some x0)))]) .agg fun y21 =>
  C.new ty_impl_lister (.agg y21) fun b22 =>
  C.sem (Instr.buildSlice ty_sl_impl_Key 0 #[]) .slice fun y23 =>
  C.loop (TL [(.int .i64), (.int .i64), .slice]) (embL [(.int .i64), (.int .i64), .slice]) [(.int .i64 x2), (.int .i64 x3), (.slice y23.a y23.n y23.c)] fun s6 ct6 => C.any fun _ =>
  cond (decide (s6.1 > 1)) (
    C.ld .agg 32 (Addr.mk b5 0 none) fun v28 =>
    C.call n_ptr_impl_lister_pair [(.pointer (some (Addr.mk b22 0 none))), (.agg v28)] [.agg, .agg, (.int .i64)] fun r29 =>
    C.new ty_impl_Key (.agg (Array.replicate 32 (.int .u8 0))) fun b14 =>
    C.new ty_impl_Key (.agg (Array.replicate 32 (.int .u8 0))) fun b15 =>
    C.st 32 (Addr.mk b14 0 none) (.agg r29.1) <|
    C.st 32 (Addr.mk b15 0 none) (.agg r29.2.1) <|
    cond (r29.2.2 != 0) (
      C.draw <|
      C.ld .agg 32 ((Addr.mk b22 0 none).add 1) fun v38 =>
      C.callP n_impl_toldCode [(.int .i64 r29.2.2)] [(.int .i64)] fun r40 =>
      C.st 32 (Addr.mk b10 0 none) (.agg v38) <|
      C.ld .agg 32 (Addr.mk b10 0 none) fun z13 =>
      C.ret (.tuple #[(.slice none 0 0), (.slice none 0 0), (.agg z13), (.int .i64 r40)])
    ) (
      C.call n_impl_leftOf [(.int .i64 s6.1)] [(.int .i64)] fun r42 =>
      cond (decide (s6.2.1 < r42)) (
        C.draw <|
        C.ld .agg 32 (Addr.mk b14 0 none) fun v46 =>
        C.ld .agg 32 (Addr.mk b15 0 none) fun v49 =>
        C.sem (Instr.buildSlice ty_sl_impl_Key 1 #[(0, (.agg v49))]) .slice fun y50 =>
        C.chk [⟨0, 32, (Addr.mk b14 0 none), .agg, v46⟩] <|
        C.sem (Builtin.append_ #[ty_sl_impl_Key, ty_sl_impl_Key] ty_sl_impl_Key #[(.slice s6.2.2.a s6.2.2.n s6.2.2.c), (.slice y50.a y50.n y50.c)]) .slice fun y51 =>
        C.chk [⟨0, 32, (Addr.mk b14 0 none), .agg, v46⟩] <|
        C.st 32 (Addr.mk b5 0 none) (.agg v46) <|
        ct6 [(.int .i64 r42), (.int .i64 s6.2.1), (.slice y51.a y51.n y51.c)]
      ) (
        C.draw <|
        C.ld .agg 32 (Addr.mk b15 0 none) fun v52 =>
        C.ld .agg 32 (Addr.mk b14 0 none) fun v60 =>
        C.sem (Instr.buildSlice ty_sl_impl_Key 1 #[(0, (.agg v60))]) .slice fun y61 =>
        C.chk [⟨0, 32, (Addr.mk b15 0 none), .agg, v52⟩] <|
        C.sem (Builtin.append_ #[ty_sl_impl_Key, ty_sl_impl_Key] ty_sl_impl_Key #[(.slice s6.2.2.a s6.2.2.n s6.2.2.c), (.slice y61.a y61.n y61.c)]) .slice fun y62 =>
        C.chk [⟨0, 32, (Addr.mk b15 0 none), .agg, v52⟩] <|
        C.st 32 (Addr.mk b5 0 none) (.agg v52) <|
        ct6 [(.int .i64 (IntKind.wrap .i64 (s6.1 - r42))), (.int .i64 (IntKind.wrap .i64 (s6.2.1 - r42))), (.slice y62.a y62.n y62.c)]
      )
    )
  ) (
    C.ld .agg 32 (Addr.mk b5 0 none) fun v65 =>
    C.call n_ptr_impl_lister_blob [(.pointer (some (Addr.mk b22 0 none))), (.agg v65), (.int .u8 1), (.int .i64 (-1))] [.slice, (.int .i64)] fun r66 =>
    cond (r66.2 != 0) (
      C.draw <|
      C.ld .agg 32 ((Addr.mk b22 0 none).add 1) fun v74 =>
      C.callP n_impl_toldCode [(.int .i64 r66.2)] [(.int .i64)] fun r76 =>
      C.st 32 (Addr.mk b10 0 none) (.agg v74) <|
      C.ld .agg 32 (Addr.mk b10 0 none) fun z27 =>
      C.ret (.tuple #[(.slice none 0 0), (.slice none 0 0), (.agg z27), (.int .i64 r76)])
    ) (
      C.call n_slices_Reverse_sl_impl_Key_impl_Key [(.slice s6.2.2.a s6.2.2.n s6.2.2.c)] [] fun r78 =>
      C.call n_slices_Clone_sl_byte_byte [(.slice r66.1.a r66.1.n r66.1.c)] [.slice] fun r80 =>
      C.st 32 (Addr.mk b10 0 none) (.agg (Array.replicate 32 (.int .u8 0))) <|
      C.ld .agg 32 (Addr.mk b10 0 none) fun z30 =>
      C.ret (.tuple #[(.slice r80.a r80.n r80.c), (.slice s6.2.2.a s6.2.2.n s6.2.2.c), (.agg z30), (.int .i64 0)])
    )
  )
theorem ptr_impl_shop_chunk_eq (C : Comb) (x0 : Addr) (x1 : Array Value) (x2 : Int) (x3 : Int) : fT C Tryz.prog { loop := [(2, [(2, (.int .i64)), (3, (.int .i64)), (13, .slice)])], join := [], anyOrder := [5, 8, 9, 12], pure := [104] } n_ptr_impl_shop_chunk [(.pointer (some x0)), (.agg x1), (.int .i64 x2), (.int .i64 x3)] = ptr_impl_shop_chunk C x0 x1 x2 x3 := by kernel_rfl
theorem ptr_impl_shop_chunk_calls {R : Value → World → Prop} {w : World} (x0 : Addr) (x1 : Array Value) (x2 : Int) (x3 : Int) (h : (ptr_impl_shop_chunk (real Tryz.prog R) x0 x1 x2 x3 : World → Prop) w) :
    Calls Tryz.prog n_ptr_impl_shop_chunk [(.pointer (some x0)), (.agg x1), (.int .i64 x2), (.int .i64 x3)].toArray w fun e w' => ∃ v, e = .returned v ∧ R v w' := fT_sound mixed { loop := [(2, [(2, (.int .i64)), (3, (.int .i64)), (13, .slice)])], join := [], anyOrder := [5, 8, 9, 12], pure := [104] } (by rw [ptr_impl_shop_chunk_eq]; exact h)

/-- laws.eqBlobS (57) -/
def laws_eqBlobS (C : Comb) (x0 : Sl) (x1 : Sl) : C.St :=
  cond ((x0.n : Int) != (x1.n : Int)) (
    C.ret (.bool false)
  ) (
    C.loop (TL [(.int .i64)]) (embL [(.int .i64)]) [(.int .i64 0)] fun s1 ct1 => C.any fun _ =>
    cond (decide (s1 < (x0.n : Int))) (
      C.draw <|
      C.ix x0.a x0.n 2 s1 fun p19 =>
      C.ld .agg 2 p19 fun v20 =>
      C.ix x1.a x1.n 2 s1 fun p23 =>
      C.ld .agg 2 p23 fun v24 =>
      C.call n_laws_eqBlob [(.agg v20), (.agg v24)] [.bool] fun r25 =>
      cond (!r25) (
        C.ret (.bool false)
      ) (
        ct1 [(.int .i64 (IntKind.wrap .i64 (s1 + 1)))]
      )
    ) (
      C.ret (.bool true)
    )
  )
theorem laws_eqBlobS_eq (C : Comb) (x0 : Sl) (x1 : Sl) : fT C Tryz.prog { loop := [(4, [(5, (.int .i64))])], join := [], anyOrder := [6], pure := [] } n_laws_eqBlobS [(.slice x0.a x0.n x0.c), (.slice x1.a x1.n x1.c)] = laws_eqBlobS C x0 x1 := by kernel_rfl
theorem laws_eqBlobS_calls {R : Value → World → Prop} {w : World} (x0 : Sl) (x1 : Sl) (h : (laws_eqBlobS (real Tryz.prog R) x0 x1 : World → Prop) w) :
    Calls Tryz.prog n_laws_eqBlobS [(.slice x0.a x0.n x0.c), (.slice x1.a x1.n x1.c)].toArray w fun e w' => ∃ v, e = .returned v ∧ R v w' := fT_sound mixed { loop := [(4, [(5, (.int .i64))])], join := [], anyOrder := [6], pure := [] } (by rw [laws_eqBlobS_eq]; exact h)

/-- laws.markBlobS (58) -/
def laws_markBlobS (C : Comb) (x0 : Sl) (x1 : Int) : C.St :=
  C.loop (TL [(.int .i64), (.int .i64)]) (embL [(.int .i64), (.int .i64)]) [(.int .i64 x1), (.int .i64 0)] fun s1 ct1 => C.any fun _ =>
  cond (decide (s1.2 < (x0.n : Int))) (
    C.ix x0.a x0.n 2 s1.2 fun p16 =>
    C.st 1 (p16.add 0) (.int .u8 (IntKind.wrap .u8 (s1.1))) <|
    C.ix x0.a x0.n 2 s1.2 fun p22 =>
    C.ld .slice 1 (p22.add 1) fun v24 =>
    C.call n_laws_markByteS [(.slice v24.a v24.n v24.c), (.int .i64 (IntKind.wrap .i64 (s1.1 + 1)))] [(.int .i64)] fun r26 =>
    ct1 [(.int .i64 r26), (.int .i64 (IntKind.wrap .i64 (s1.2 + 1)))]
  ) (
    C.ret (.int .i64 s1.1)
  )
theorem laws_markBlobS_eq (C : Comb) (x0 : Sl) (x1 : Int) : fT C Tryz.prog { loop := [(2, [(1, (.int .i64)), (5, (.int .i64))])], join := [], anyOrder := [], pure := [] } n_laws_markBlobS [(.slice x0.a x0.n x0.c), (.int .i64 x1)] = laws_markBlobS C x0 x1 := by kernel_rfl
theorem laws_markBlobS_calls {R : Value → World → Prop} {w : World} (x0 : Sl) (x1 : Int) (h : (laws_markBlobS (real Tryz.prog R) x0 x1 : World → Prop) w) :
    Calls Tryz.prog n_laws_markBlobS [(.slice x0.a x0.n x0.c), (.int .i64 x1)].toArray w fun e w' => ∃ v, e = .returned v ∧ R v w' := fT_sound mixed { loop := [(2, [(1, (.int .i64)), (5, (.int .i64))])], join := [], anyOrder := [], pure := [] } (by rw [laws_markBlobS_eq]; exact h)

/-- spec.l00In (59) -/
def spec_l00In (C : Comb) (x0 : Int) (x1 : Int) (x2 : Int) : C.St :=
  cond (decide (x0 ≥ x1)) (
    C.ret (.bool (decide (x0 ≤ x2)))
  ) (
    C.ret (.bool false)
  )
theorem spec_l00In_eq (C : Comb) (x0 : Int) (x1 : Int) (x2 : Int) : fT C Tryz.prog { loop := [], join := [], anyOrder := [], pure := [] } n_spec_l00In [(.int .i64 x0), (.int .i64 x1), (.int .i64 x2)] = spec_l00In C x0 x1 x2 := by kernel_rfl
theorem spec_l00In_calls {R : Value → World → Prop} {w : World} (x0 : Int) (x1 : Int) (x2 : Int) (h : (spec_l00In (real Tryz.prog R) x0 x1 x2 : World → Prop) w) :
    Calls Tryz.prog n_spec_l00In [(.int .i64 x0), (.int .i64 x1), (.int .i64 x2)].toArray w fun e w' => ∃ v, e = .returned v ∧ R v w' := fT_sound mixed { loop := [], join := [], anyOrder := [], pure := [] } (by rw [spec_l00In_eq]; exact h)

/-- (*spec.l05Leaves).tree (60) -/
def ptr_spec_l05Leaves_tree (C : Comb) (x0 : Addr) (x1 : Array Value) (x2 : Int) : C.St :=
  C.new ty_impl_Key (.agg x1) fun b4 =>
  C.ld (.int .i64) 1 (x0.add 34) fun v14 =>
  cond (v14 != 0) (
    C.ret (.tuple #[])
  ) (
    C.join (TL [(.int .i64)]) (embL [(.int .i64)]) (fun s6 => C.any fun _ =>
        cond (decide (s6 < 0)) (
          C.ld .agg 32 (Addr.mk b4 0 none) fun v25 =>
          C.st 32 (x0.add 2) (.agg v25) <|
          C.st 1 (x0.add 34) (.int .i64 6) <|
          C.ret (.tuple #[])
        ) (
          C.ld .ptr 1 (x0.add 0) fun v34 =>
          C.ld .slice 1 (v34.add 0) fun v37 =>
          C.ix v37.a v37.n 2 s6 fun p39 =>
          C.join (TL [(.int .u8)]) (embL [(.int .u8)]) (fun s11 => C.any fun _ =>
              C.join (TL []) (embL []) (fun s16 => C.any fun _ =>
                  C.join (TL []) (embL []) (fun s23 => C.any fun _ =>
                      cond (decide (x2 > 1)) (
                        C.ld .slice 1 (p39.add 1) fun v100 =>
                        C.call n_spec_l05Keys [(.slice v100.a v100.n v100.c), (.int .i64 0), (.int .i64 2)] [.slice] fun r101 =>
                        C.call n_spec_l03Half [(.int .i64 x2)] [(.int .i64)] fun r103 =>
                        C.ix r101.a r101.n 32 0 fun p106 =>
                        C.ld .agg 32 p106 fun v107 =>
                        C.call n_ptr_spec_l05Leaves_tree [(.pointer (some x0)), (.agg v107), (.int .i64 r103)] [] fun r109 =>
                        C.ix r101.a r101.n 32 1 fun p112 =>
                        C.ld .agg 32 p112 fun v113 =>
                        C.call n_ptr_spec_l05Leaves_tree [(.pointer (some x0)), (.agg v113), (.int .i64 (IntKind.wrap .i64 (x2 - r103)))] [] fun r117 =>
                        C.ret (.tuple #[])
                      ) (
                        C.ret (.tuple #[])
                      )
                    ) fun jt =>
                  cond (x2 == 1) (
                    C.draw <|
                    C.ld .slice 1 (x0.add 1) fun v84 =>
                    C.ld .slice 1 (p39.add 1) fun v89 =>
                    C.sem (Instr.buildSlice ty_sl_uint8 0 #[]) .slice fun y85 =>
                    C.chk [⟨9, 1, (p39.add 1), .slice, v89⟩, ⟨4, 1, (x0.add 1), .slice, v84⟩] <|
                    C.sem (Builtin.append_ #[ty_sl_uint8, ty_sl_uint8] ty_sl_uint8 #[(.slice y85.a y85.n y85.c), (.slice v89.a v89.n v89.c)]) .slice fun y90 =>
                    C.chk [⟨4, 1, (x0.add 1), .slice, v84⟩] <|
                    C.sem (Instr.buildSlice ty_sl_sl_uint8 1 #[(0, (.slice y90.a y90.n y90.c))]) .slice fun y91 =>
                    C.chk [⟨4, 1, (x0.add 1), .slice, v84⟩] <|
                    C.sem (Builtin.append_ #[ty_sl_sl_uint8, ty_sl_sl_uint8] ty_sl_sl_uint8 #[(.slice v84.a v84.n v84.c), (.slice y91.a y91.n y91.c)]) .slice fun y92 =>
                    C.st 1 (x0.add 1) (.slice y92.a y92.n y92.c) <|
                    jt []
                  ) (
                    jt []
                  )
                ) fun jt =>
              C.ld (.int .u8) 1 (p39.add 0) fun v48 =>
              cond (v48 != s11) (
                C.st 1 (x0.add 34) (.int .i64 8) <|
                C.ret (.tuple #[])
              ) (
                cond (x2 == 0) (
                  C.ld .slice 1 (p39.add 1) fun v58 =>
                  cond ((v58.n : Int) != 0) (
                    C.st 1 (x0.add 34) (.int .i64 8) <|
                    C.ret (.tuple #[])
                  ) (
                    cond (decide (x2 > 1)) (
                      C.ld .slice 1 (p39.add 1) fun v70 =>
                      cond ((v70.n : Int) != 64) (
                        C.st 1 (x0.add 34) (.int .i64 8) <|
                        C.ret (.tuple #[])
                      ) (
                        jt []
                      )
                    ) (
                      jt []
                    )
                  )
                ) (
                  cond (decide (x2 > 1)) (
                    C.ld .slice 1 (p39.add 1) fun v70 =>
                    cond ((v70.n : Int) != 64) (
                      C.st 1 (x0.add 34) (.int .i64 8) <|
                      C.ret (.tuple #[])
                    ) (
                      jt []
                    )
                  ) (
                    jt []
                  )
                )
              )
            ) fun jt =>
          cond (x2 == 0) (
            jt [(.int .u8 3)]
          ) (
            cond (x2 == 1) (
              jt [(.int .u8 1)]
            ) (
              jt [(.int .u8 2)]
            )
          )
        )
      ) fun jt =>
    C.draw <|
    C.ld .ptr 1 (x0.add 0) fun v19 =>
    C.ld .agg 32 (Addr.mk b4 0 none) fun v20 =>
    C.call n_ptr_spec_l05Store_find [(.pointer (some v19)), (.agg v20)] [(.int .i64)] fun r21 =>
    jt [(.int .i64 r21)]
  )
theorem ptr_spec_l05Leaves_tree_eq (C : Comb) (x0 : Addr) (x1 : Array Value) (x2 : Int) : fT C Tryz.prog { loop := [], join := [(7, [(6, (.int .i64))]), (29, [(8, (.int .u8))]), (222, []), (237, [])], anyOrder := [2, 16], pure := [] } n_ptr_spec_l05Leaves_tree [(.pointer (some x0)), (.agg x1), (.int .i64 x2)] = ptr_spec_l05Leaves_tree C x0 x1 x2 := by kernel_rfl
theorem ptr_spec_l05Leaves_tree_calls {R : Value → World → Prop} {w : World} (x0 : Addr) (x1 : Array Value) (x2 : Int) (h : (ptr_spec_l05Leaves_tree (real Tryz.prog R) x0 x1 x2 : World → Prop) w) :
    Calls Tryz.prog n_ptr_spec_l05Leaves_tree [(.pointer (some x0)), (.agg x1), (.int .i64 x2)].toArray w fun e w' => ∃ v, e = .returned v ∧ R v w' := fT_sound mixed { loop := [], join := [(7, [(6, (.int .i64))]), (29, [(8, (.int .u8))]), (222, []), (237, [])], anyOrder := [2, 16], pure := [] } (by rw [ptr_spec_l05Leaves_tree_eq]; exact h)

/-- impl.newShop (61) -/
def impl_newShop (C : Comb) (x0 : Array Value) : C.St :=
  C.new ty_impl_Store (.agg x0) fun b1 =>
  C.ld .agg 1 (Addr.mk b1 0 none) fun v4 =>
  C.call n_impl_ValidStore [(.agg v4)] [.bool] fun r5 =>
  cond (!r5) (
    C.ret (.tuple #[(.pointer none), (.bool false)])
  ) (
    C.draw <|
    C.ld .agg 1 (Addr.mk b1 0 none) fun v7 =>
    C.ld .slice 1 ((Addr.mk b1 0 none).add 0) fun v10 =>
    C.call n_impl_Store_keys [(.agg v7)] [.slice] fun r8 =>
    C.chk [⟨3, 1, ((Addr.mk b1 0 none).add 0), .slice, v10⟩] <|
    C.call n_slices_Clone_sl_impl_Blob_impl_Blob [(.slice v10.a v10.n v10.c)] [.slice] fun r11 =>
    C.pur (Instr.build ty_impl_shop #[(0, (.slice r8.a r8.n r8.c)), (1, (.slice r11.a r11.n r11.c))]) .agg fun y12 =>
    C.new ty_impl_shop (.agg y12) fun b13 =>
    C.ret (.tuple #[(.pointer (some (Addr.mk b13 0 none))), (.bool true)])
  )
theorem impl_newShop_eq (C : Comb) (x0 : Array Value) : fT C Tryz.prog { loop := [], join := [], anyOrder := [3], pure := [] } n_impl_newShop [(.agg x0)] = impl_newShop C x0 := by kernel_rfl
theorem impl_newShop_calls {R : Value → World → Prop} {w : World} (x0 : Array Value) (h : (impl_newShop (real Tryz.prog R) x0 : World → Prop) w) :
    Calls Tryz.prog n_impl_newShop [(.agg x0)].toArray w fun e w' => ∃ v, e = .returned v ∧ R v w' := fT_sound mixed { loop := [], join := [], anyOrder := [3], pure := [] } (by rw [impl_newShop_eq]; exact h)

/-- impl.within (62) -/
def impl_within (C : Comb) (x0 : Int) (x1 : Int) (x2 : Int) : C.St :=
  cond (decide (x0 ≥ x1)) (
    C.ret (.bool (decide (x0 ≤ x2)))
  ) (
    C.ret (.bool false)
  )
theorem impl_within_eq (C : Comb) (x0 : Int) (x1 : Int) (x2 : Int) : fT C Tryz.prog { loop := [], join := [], anyOrder := [], pure := [] } n_impl_within [(.int .i64 x0), (.int .i64 x1), (.int .i64 x2)] = impl_within C x0 x1 x2 := by kernel_rfl
theorem impl_within_calls {R : Value → World → Prop} {w : World} (x0 : Int) (x1 : Int) (x2 : Int) (h : (impl_within (real Tryz.prog R) x0 x1 x2 : World → Prop) w) :
    Calls Tryz.prog n_impl_within [(.int .i64 x0), (.int .i64 x1), (.int .i64 x2)].toArray w fun e w' => ∃ v, e = .returned v ∧ R v w' := fT_sound mixed { loop := [], join := [], anyOrder := [], pure := [] } (by rw [impl_within_eq]; exact h)

/-- (*impl.lister).load (63) -/
def ptr_impl_lister_load (C : Comb) (x0 : Addr) (x1 : Array Value) (x2 : Int) (x3 : Value) : C.St :=
  C.new ty_impl_Key (.agg x1) fun b5 =>
  cond (x2 == 0) (
    C.ld .agg 32 (Addr.mk b5 0 none) fun v23 =>
    C.call n_ptr_impl_lister_blob [(.pointer (some x0)), (.agg v23), (.int .u8 3), (.int .i64 0)] [.slice, (.int .i64)] fun r24 =>
    C.ret (.int .i64 r24.2)
  ) (
    cond (x2 == 1) (
      C.ld .agg 32 (Addr.mk b5 0 none) fun v32 =>
      C.call n_ptr_impl_lister_blob [(.pointer (some x0)), (.agg v32), (.int .u8 1), (.int .i64 (-1))] [.slice, (.int .i64)] fun r33 =>
      cond (r33.2 == 0) (
        C.callV x3 [(.slice r33.1.a r33.1.n r33.1.c)] [] fun r40 =>
        C.ret (.int .i64 r33.2)
      ) (
        C.ret (.int .i64 r33.2)
      )
    ) (
      C.ld .agg 32 (Addr.mk b5 0 none) fun v44 =>
      C.call n_ptr_impl_lister_pair [(.pointer (some x0)), (.agg v44)] [.agg, .agg, (.int .i64)] fun r45 =>
      C.new ty_impl_Key (.agg (Array.replicate 32 (.int .u8 0))) fun b13 =>
      C.new ty_impl_Key (.agg (Array.replicate 32 (.int .u8 0))) fun b14 =>
      C.st 32 (Addr.mk b13 0 none) (.agg r45.1) <|
      C.st 32 (Addr.mk b14 0 none) (.agg r45.2.1) <|
      cond (r45.2.2 != 0) (
        C.ret (.int .i64 r45.2.2)
      ) (
        C.call n_impl_leftOf [(.int .i64 x2)] [(.int .i64)] fun r53 =>
        C.ld .agg 32 (Addr.mk b13 0 none) fun v55 =>
        C.call n_ptr_impl_lister_load [(.pointer (some x0)), (.agg v55), (.int .i64 r53), x3] [(.int .i64)] fun r58 =>
        cond (r58 != 0) (
          C.ret (.int .i64 r58)
        ) (
          C.ld .agg 32 (Addr.mk b14 0 none) fun v63 =>
          C.call n_ptr_impl_lister_load [(.pointer (some x0)), (.agg v63), (.int .i64 (IntKind.wrap .i64 (x2 - r53))), x3] [(.int .i64)] fun r68 =>
          C.ret (.int .i64 r68)
        )
      )
    )
  )
theorem ptr_impl_lister_load_eq (C : Comb) (x0 : Addr) (x1 : Array Value) (x2 : Int) (x3 : Value) : fT C Tryz.prog { loop := [], join := [], anyOrder := [], pure := [] } n_ptr_impl_lister_load [(.pointer (some x0)), (.agg x1), (.int .i64 x2), x3] = ptr_impl_lister_load C x0 x1 x2 x3 := by kernel_rfl
theorem ptr_impl_lister_load_calls {R : Value → World → Prop} {w : World} (x0 : Addr) (x1 : Array Value) (x2 : Int) (x3 : Value) (h : (ptr_impl_lister_load (real Tryz.prog R) x0 x1 x2 x3 : World → Prop) w) :
    Calls Tryz.prog n_ptr_impl_lister_load [(.pointer (some x0)), (.agg x1), (.int .i64 x2), x3].toArray w fun e w' => ∃ v, e = .returned v ∧ R v w' := fT_sound mixed { loop := [], join := [], anyOrder := [], pure := [] } (by rw [ptr_impl_lister_load_eq]; exact h)

/-- impl.LoadList$1 (64) -/
def impl_LoadList_1 (C : Comb) (x0 : Sl) (x1 : Addr) : C.St :=
  C.draw <|
  C.ld .slice 1 x1 fun v3 =>
  C.call n_slices_Clone_sl_byte_byte [(.slice x0.a x0.n x0.c)] [.slice] fun r5 =>
  C.chk [⟨0, 1, x1, .slice, v3⟩] <|
  C.sem (Instr.buildSlice ty_sl_sl_uint8 1 #[(0, (.slice r5.a r5.n r5.c))]) .slice fun y6 =>
  C.chk [⟨0, 1, x1, .slice, v3⟩] <|
  C.sem (Builtin.append_ #[ty_sl_sl_uint8, ty_sl_sl_uint8] ty_sl_sl_uint8 #[(.slice v3.a v3.n v3.c), (.slice y6.a y6.n y6.c)]) .slice fun y7 =>
  C.st 1 x1 (.slice y7.a y7.n y7.c) <|
  C.ret (.tuple #[])
theorem impl_LoadList_1_eq (C : Comb) (x0 : Sl) (x1 : Addr) : fT C Tryz.prog { loop := [], join := [], anyOrder := [0], pure := [] } n_impl_LoadList_1 [(.slice x0.a x0.n x0.c), (.pointer (some x1))] = impl_LoadList_1 C x0 x1 := by kernel_rfl
theorem impl_LoadList_1_calls {R : Value → World → Prop} {w : World} (x0 : Sl) (x1 : Addr) (h : (impl_LoadList_1 (real Tryz.prog R) x0 x1 : World → Prop) w) :
    Calls Tryz.prog n_impl_LoadList_1 [(.slice x0.a x0.n x0.c), (.pointer (some x1))].toArray w fun e w' => ∃ v, e = .returned v ∧ R v w' := fT_sound mixed { loop := [], join := [], anyOrder := [0], pure := [] } (by rw [impl_LoadList_1_eq]; exact h)

/-- slices.Clone[[]byte,byte] (65) -/
def slices_Clone_sl_byte_byte (C : Comb) (x0 : Sl) : C.St :=
  C.pur (eqB .eql ty_sl_uint8 (.tmp 3) (.const (.slice none 0 0)) (.slice x0.a x0.n x0.c) (.slice none 0 0)) .bool fun y4 =>
  cond y4 (
    C.ret (.slice none 0 0)
  ) (
    C.sem (Instr.buildSlice ty_sl_uint8 0 #[]) .slice fun y5 =>
    C.sem (Builtin.append_ #[ty_sl_uint8, ty_sl_uint8] ty_sl_uint8 #[(.slice y5.a y5.n y5.c), (.slice x0.a x0.n x0.c)]) .slice fun y7 =>
    C.ret (.slice y7.a y7.n y7.c)
  )
theorem slices_Clone_sl_byte_byte_eq (C : Comb) (x0 : Sl) : fT C Tryz.prog { loop := [], join := [], anyOrder := [], pure := [] } n_slices_Clone_sl_byte_byte [(.slice x0.a x0.n x0.c)] = slices_Clone_sl_byte_byte C x0 := by kernel_rfl
theorem slices_Clone_sl_byte_byte_calls {R : Value → World → Prop} {w : World} (x0 : Sl) (h : (slices_Clone_sl_byte_byte (real Tryz.prog R) x0 : World → Prop) w) :
    Calls Tryz.prog n_slices_Clone_sl_byte_byte [(.slice x0.a x0.n x0.c)].toArray w fun e w' => ∃ v, e = .returned v ∧ R v w' := fT_sound mixed { loop := [], join := [], anyOrder := [], pure := [] } (by rw [slices_Clone_sl_byte_byte_eq]; exact h)

/-- laws.szByteS (66) -/
def laws_szByteS (C : Comb) (x0 : Sl) (x1 : Int) : C.St :=
  cond (decide ((IntKind.wrap .i64 (x1 - (x0.n : Int))) < 0)) (
    C.ret (.int .i64 (-1))
  ) (
    C.ret (.int .i64 (IntKind.wrap .i64 (x1 - (x0.n : Int))))
  )
theorem laws_szByteS_eq (C : Comb) (x0 : Sl) (x1 : Int) : fT C Tryz.prog { loop := [], join := [], anyOrder := [], pure := [] } n_laws_szByteS [(.slice x0.a x0.n x0.c), (.int .i64 x1)] = laws_szByteS C x0 x1 := by kernel_rfl
theorem laws_szByteS_calls {R : Value → World → Prop} {w : World} (x0 : Sl) (x1 : Int) (h : (laws_szByteS (real Tryz.prog R) x0 x1 : World → Prop) w) :
    Calls Tryz.prog n_laws_szByteS [(.slice x0.a x0.n x0.c), (.int .i64 x1)].toArray w fun e w' => ∃ v, e = .returned v ∧ R v w' := fT_sound mixed { loop := [], join := [], anyOrder := [], pure := [] } (by rw [laws_szByteS_eq]; exact h)

/-- (*spec.l05Store).put (67) -/
def ptr_spec_l05Store_put (C : Comb) (x0 : Addr) (x1 : Array Value) : C.St :=
  C.new ty_impl_Blob (.agg x1) fun b3 =>
  C.new ty_impl_Key (.agg (Array.replicate 32 (.int .u8 0))) fun b4 =>
  C.call n_spec_l05Key [(.pointer (some (Addr.mk b3 0 none)))] [.agg] fun r10 =>
  C.new ty_impl_Key (.agg (Array.replicate 32 (.int .u8 0))) fun b6 =>
  C.st 32 (Addr.mk b6 0 none) (.agg r10) <|
  C.join (TL [(.int .i64)]) (embL [(.int .i64)]) (fun s20 => C.any fun _ =>
      C.join (TL [.bool]) (embL [.bool]) (fun s27 => C.any fun _ =>
          cond s27 (
            C.ld .slice 1 (x0.add 0) fun v53 =>
            C.ix v53.a v53.n 2 s20 fun p55 =>
            C.call n_spec_l05SameBlob [(.pointer (some p55)), (.pointer (some (Addr.mk b3 0 none)))] [.bool] fun r56 =>
            cond (!r56) (
              C.st 32 (Addr.mk b4 0 none) (.agg (Array.replicate 32 (.int .u8 0))) <|
              C.ld .agg 32 (Addr.mk b4 0 none) fun z31 =>
              C.ret (.tuple #[(.agg z31), (.int .i64 8)])
            ) (
              C.ld .agg 32 (Addr.mk b6 0 none) fun v59 =>
              C.st 32 (Addr.mk b4 0 none) (.agg v59) <|
              C.ld .agg 32 (Addr.mk b4 0 none) fun z33 =>
              C.ret (.tuple #[(.agg z33), (.int .i64 0)])
            )
          ) (
            C.ld .slice 1 (x0.add 1) fun v63 =>
            cond (decide ((v63.n : Int) ≥ 128)) (
              C.st 32 (Addr.mk b4 0 none) (.agg (Array.replicate 32 (.int .u8 0))) <|
              C.ld .agg 32 (Addr.mk b4 0 none) fun z35 =>
              C.ret (.tuple #[(.agg z35), (.int .i64 3)])
            ) (
              C.join (TL [.slice]) (embL [.slice]) (fun s41 => C.any fun _ =>
                  C.sem (Instr.buildSlice ty_sl_impl_Blob 0 #[]) .slice fun y77 =>
                  C.ld .slice 1 (x0.add 0) fun v81 =>
                  C.sl v81.a v81.n v81.c 2 none (some s20) none fun y83 =>
                  C.sem (Builtin.append_ #[ty_sl_impl_Blob, ty_sl_impl_Blob] ty_sl_impl_Blob #[(.slice y77.a y77.n y77.c), (.slice y83.a y83.n y83.c)]) .slice fun y84 =>
                  C.sem (Builtin.append_ #[ty_sl_impl_Blob, ty_sl_impl_Blob] ty_sl_impl_Blob #[(.slice y84.a y84.n y84.c), (.slice s41.a s41.n s41.c)]) .slice fun y86 =>
                  C.st 1 (x0.add 0) (.slice y86.a y86.n y86.c) <|
                  C.join (TL [.slice]) (embL [.slice]) (fun s52 => C.any fun _ =>
                      C.sem (Instr.buildSlice ty_sl_impl_Key 0 #[]) .slice fun y99 =>
                      C.ld .slice 1 (x0.add 1) fun v103 =>
                      C.sl v103.a v103.n v103.c 32 none (some s20) none fun y105 =>
                      C.sem (Builtin.append_ #[ty_sl_impl_Key, ty_sl_impl_Key] ty_sl_impl_Key #[(.slice y99.a y99.n y99.c), (.slice y105.a y105.n y105.c)]) .slice fun y106 =>
                      C.sem (Builtin.append_ #[ty_sl_impl_Key, ty_sl_impl_Key] ty_sl_impl_Key #[(.slice y106.a y106.n y106.c), (.slice s52.a s52.n s52.c)]) .slice fun y108 =>
                      C.st 1 (x0.add 1) (.slice y108.a y108.n y108.c) <|
                      C.ld .agg 32 (Addr.mk b6 0 none) fun v111 =>
                      C.st 32 (Addr.mk b4 0 none) (.agg v111) <|
                      C.ld .agg 32 (Addr.mk b4 0 none) fun z59 =>
                      C.ret (.tuple #[(.agg z59), (.int .i64 0)])
                    ) fun jt =>
                  C.draw <|
                  C.ld .agg 32 (Addr.mk b6 0 none) fun v89 =>
                  C.ld .slice 1 (x0.add 1) fun v94 =>
                  C.sl v94.a v94.n v94.c 32 (some s20) none none fun y96 =>
                  C.sem (Instr.buildSlice ty_sl_impl_Key 1 #[(0, (.agg v89))]) .slice fun y90 =>
                  C.chk [⟨5, 1, (x0.add 1), .slice, v94⟩] <|
                  C.sem (Builtin.append_ #[ty_sl_impl_Key, ty_sl_impl_Key] ty_sl_impl_Key #[(.slice y90.a y90.n y90.c), (.slice y96.a y96.n y96.c)]) .slice fun y97 =>
                  C.chk [⟨5, 1, (x0.add 1), .slice, v94⟩] <|
                  jt [(.slice y97.a y97.n y97.c)]
                ) fun jt =>
              C.draw <|
              C.ld .agg 2 (Addr.mk b3 0 none) fun v67 =>
              C.ld .slice 1 (x0.add 0) fun v72 =>
              C.sl v72.a v72.n v72.c 2 (some s20) none none fun y74 =>
              C.sem (Instr.buildSlice ty_sl_impl_Blob 1 #[(0, (.agg v67))]) .slice fun y68 =>
              C.chk [⟨5, 1, (x0.add 0), .slice, v72⟩] <|
              C.sem (Builtin.append_ #[ty_sl_impl_Blob, ty_sl_impl_Blob] ty_sl_impl_Blob #[(.slice y68.a y68.n y68.c), (.slice y74.a y74.n y74.c)]) .slice fun y75 =>
              C.chk [⟨5, 1, (x0.add 0), .slice, v72⟩] <|
              jt [(.slice y75.a y75.n y75.c)]
            )
          )
        ) fun jt =>
      C.draw <|
      C.ld .slice 1 (x0.add 1) fun v36 =>
      cond (decide (s20 < (v36.n : Int))) (
        C.ld .slice 1 (x0.add 1) fun v43 =>
        C.ix v43.a v43.n 32 s20 fun p45 =>
        C.ld .agg 32 p45 fun v46 =>
        C.ld .agg 32 (Addr.mk b6 0 none) fun v47 =>
        C.pur (eqB .eql ty_impl_Key (.tmp 46) (.tmp 47) (.agg v46) (.agg v47)) .bool fun y48 =>
        jt [(.bool y48)]
      ) (
        jt [(.bool false)]
      )
    ) fun jt =>
  C.loop (TL [(.int .i64)]) (embL [(.int .i64)]) [(.int .i64 0)] fun s5 ct5 => C.any fun _ =>
  C.draw <|
  C.ld .slice 1 (x0.add 1) fun v15 =>
  cond (decide (s5 < (v15.n : Int))) (
    C.all [
      (C.ld .slice 1 (x0.add 1) fun v22 =>
       C.chk [⟨4, 1, (x0.add 1), .slice, v15⟩] <|
       C.ix v22.a v22.n 32 s5 fun p24 =>
       C.all [
         (C.ld .agg 32 p24 fun v25 =>
          C.chk [⟨4, 1, (x0.add 1), .slice, v15⟩] <|
          C.ld .agg 32 (Addr.mk b6 0 none) fun v26 =>
          C.chk [⟨4, 1, (x0.add 1), .slice, v15⟩] <|
          C.call n_spec_l01Compare [(.agg v25), (.agg v26)] [(.int .i64)] fun r27 =>
          C.chk [⟨4, 1, (x0.add 1), .slice, v15⟩] <|
          cond (decide (r27 < 0)) (
            ct5 [(.int .i64 (IntKind.wrap .i64 (s5 + 1)))]
          ) (
            jt [(.int .i64 s5)]
          )),
         (C.ld .agg 32 (Addr.mk b6 0 none) fun v26 =>
          C.chk [⟨4, 1, (x0.add 1), .slice, v15⟩] <|
          C.ld .agg 32 p24 fun v25 =>
          C.chk [⟨4, 1, (x0.add 1), .slice, v15⟩] <|
          C.call n_spec_l01Compare [(.agg v25), (.agg v26)] [(.int .i64)] fun r27 =>
          C.chk [⟨4, 1, (x0.add 1), .slice, v15⟩] <|
          cond (decide (r27 < 0)) (
            ct5 [(.int .i64 (IntKind.wrap .i64 (s5 + 1)))]
          ) (
            jt [(.int .i64 s5)]
          ))]),
      (C.ld .agg 32 (Addr.mk b6 0 none) fun v26 =>
       C.chk [⟨4, 1, (x0.add 1), .slice, v15⟩] <|
       C.ld .slice 1 (x0.add 1) fun v22 =>
       C.chk [⟨4, 1, (x0.add 1), .slice, v15⟩] <|
       C.ix v22.a v22.n 32 s5 fun p24 =>
       C.ld .agg 32 p24 fun v25 =>
       C.chk [⟨4, 1, (x0.add 1), .slice, v15⟩] <|
       C.call n_spec_l01Compare [(.agg v25), (.agg v26)] [(.int .i64)] fun r27 =>
       C.chk [⟨4, 1, (x0.add 1), .slice, v15⟩] <|
       cond (decide (r27 < 0)) (
         ct5 [(.int .i64 (IntKind.wrap .i64 (s5 + 1)))]
       ) (
         jt [(.int .i64 s5)]
       ))]
  ) (
    C.all [
      (C.chk [⟨4, 1, (x0.add 1), .slice, v15⟩] <|
       C.all [
         (C.chk [⟨4, 1, (x0.add 1), .slice, v15⟩] <|
          C.chk [⟨4, 1, (x0.add 1), .slice, v15⟩] <|
          C.chk [⟨4, 1, (x0.add 1), .slice, v15⟩] <|
          jt [(.int .i64 s5)]),
         (C.chk [⟨4, 1, (x0.add 1), .slice, v15⟩] <|
          C.chk [⟨4, 1, (x0.add 1), .slice, v15⟩] <|
          C.chk [⟨4, 1, (x0.add 1), .slice, v15⟩] <|
          jt [(.int .i64 s5)])]),
      (C.chk [⟨4, 1, (x0.add 1), .slice, v15⟩] <|
       C.chk [⟨4, 1, (x0.add 1), .slice, v15⟩] <|
       C.chk [⟨4, 1, (x0.add 1), .slice, v15⟩] <|
       C.chk [⟨4, 1, (x0.add 1), .slice, v15⟩] <|
       jt [(.int .i64 s5)])]
  )
theorem ptr_spec_l05Store_put_eq (C : Comb) (x0 : Addr) (x1 : Array Value) : fT C Tryz.prog { loop := [(3, [(7, (.int .i64))])], join := [(11, [(7, (.int .i64))]), (16, [(49, .bool)]), (34, [(8, .slice)]), (40, [(9, .slice)])], anyOrder := [3, 11, 13], pure := [] } n_ptr_spec_l05Store_put [(.pointer (some x0)), (.agg x1)] = ptr_spec_l05Store_put C x0 x1 := by kernel_rfl
theorem ptr_spec_l05Store_put_calls {R : Value → World → Prop} {w : World} (x0 : Addr) (x1 : Array Value) (h : (ptr_spec_l05Store_put (real Tryz.prog R) x0 x1 : World → Prop) w) :
    Calls Tryz.prog n_ptr_spec_l05Store_put [(.pointer (some x0)), (.agg x1)].toArray w fun e w' => ∃ v, e = .returned v ∧ R v w' := fT_sound mixed { loop := [(3, [(7, (.int .i64))])], join := [(11, [(7, (.int .i64))]), (16, [(49, .bool)]), (34, [(8, .slice)]), (40, [(9, .slice)])], anyOrder := [3, 11, 13], pure := [] } (by rw [ptr_spec_l05Store_put_eq]; exact h)

/-- spec.l05Made (68) -/
def spec_l05Made (C : Comb) (x0 : Addr) (x1 : Array Value) (x2 : Int) : C.St :=
  C.new ty_impl_Key (.agg x1) fun b4 =>
  C.new ty_impl_Store (.agg (#[(.slice none 0 0)])) fun b6 =>
  C.new ty_impl_Key (.agg (Array.replicate 32 (.int .u8 0))) fun b7 =>
  cond (x2 != 0) (
    C.pur (Instr.build ty_impl_Store #[]) .agg fun y11 =>
    C.st 1 (Addr.mk b6 0 none) (.agg y11) <|
    C.st 32 (Addr.mk b7 0 none) (.agg (Array.replicate 32 (.int .u8 0))) <|
    C.ld .agg 1 (Addr.mk b6 0 none) fun z5 =>
    C.ld .agg 32 (Addr.mk b7 0 none) fun z6 =>
    C.ret (.tuple #[(.agg z5), (.agg z6), (.int .i64 x2)])
  ) (
    C.draw <|
    C.ld .agg 32 (Addr.mk b4 0 none) fun v16 =>
    C.call n_ptr_spec_l05Store_store [(.pointer (some x0))] [.agg] fun r15 =>
    C.chk [⟨2, 32, (Addr.mk b4 0 none), .agg, v16⟩] <|
    C.st 1 (Addr.mk b6 0 none) (.agg r15) <|
    C.chk [⟨2, 32, (Addr.mk b4 0 none), .agg, v16⟩] <|
    C.st 32 (Addr.mk b7 0 none) (.agg v16) <|
    C.ld .agg 1 (Addr.mk b6 0 none) fun z9 =>
    C.ld .agg 32 (Addr.mk b7 0 none) fun z10 =>
    C.ret (.tuple #[(.agg z9), (.agg z10), (.int .i64 0)])
  )
theorem spec_l05Made_eq (C : Comb) (x0 : Addr) (x1 : Array Value) (x2 : Int) : fT C Tryz.prog { loop := [], join := [], anyOrder := [3], pure := [] } n_spec_l05Made [(.pointer (some x0)), (.agg x1), (.int .i64 x2)] = spec_l05Made C x0 x1 x2 := by kernel_rfl
theorem spec_l05Made_calls {R : Value → World → Prop} {w : World} (x0 : Addr) (x1 : Array Value) (x2 : Int) (h : (spec_l05Made (real Tryz.prog R) x0 x1 x2 : World → Prop) w) :
    Calls Tryz.prog n_spec_l05Made [(.pointer (some x0)), (.agg x1), (.int .i64 x2)].toArray w fun e w' => ∃ v, e = .returned v ∧ R v w' := fT_sound mixed { loop := [], join := [], anyOrder := [3], pure := [] } (by rw [spec_l05Made_eq]; exact h)

/-- (*spec.l05Store).list (69) -/
def ptr_spec_l05Store_list (C : Comb) (x0 : Addr) (x1 : Sl) : C.St :=
  C.new ty_impl_Key (.agg (Array.replicate 32 (.int .u8 0))) fun b4 =>
  cond ((x1.n : Int) == 1) (
    C.ix x1.a x1.n 32 0 fun p18 =>
    C.ld .agg 32 p18 fun v19 =>
    C.st 32 (Addr.mk b4 0 none) (.agg v19) <|
    C.ld .agg 32 (Addr.mk b4 0 none) fun z4 =>
    C.ret (.tuple #[(.agg z4), (.int .i64 0)])
  ) (
    C.call n_spec_l03Half [(.int .i64 (x1.n : Int))] [(.int .i64)] fun r22 =>
    C.sl x1.a x1.n x1.c 32 none (some r22) none fun y27 =>
    C.call n_ptr_spec_l05Store_list [(.pointer (some x0)), (.slice y27.a y27.n y27.c)] [.agg, (.int .i64)] fun r28 =>
    C.new ty_impl_Key (.agg (Array.replicate 32 (.int .u8 0))) fun b7 =>
    C.st 32 (Addr.mk b7 0 none) (.agg r28.1) <|
    cond (r28.2 != 0) (
      C.st 32 (Addr.mk b4 0 none) (.agg (Array.replicate 32 (.int .u8 0))) <|
      C.ld .agg 32 (Addr.mk b4 0 none) fun z9 =>
      C.ret (.tuple #[(.agg z9), (.int .i64 r28.2)])
    ) (
      C.sl x1.a x1.n x1.c 32 (some r22) none none fun y39 =>
      C.call n_ptr_spec_l05Store_list [(.pointer (some x0)), (.slice y39.a y39.n y39.c)] [.agg, (.int .i64)] fun r40 =>
      C.new ty_impl_Key (.agg (Array.replicate 32 (.int .u8 0))) fun b9 =>
      C.st 32 (Addr.mk b9 0 none) (.agg r40.1) <|
      cond (r40.2 != 0) (
        C.st 32 (Addr.mk b4 0 none) (.agg (Array.replicate 32 (.int .u8 0))) <|
        C.ld .agg 32 (Addr.mk b4 0 none) fun z13 =>
        C.ret (.tuple #[(.agg z13), (.int .i64 r40.2)])
      ) (
        C.sem (Instr.buildSlice ty_sl_uint8 0 #[]) .slice fun y47 =>
        C.loop (TL [.slice, (.int .i64)]) (embL [.slice, (.int .i64)]) [(.slice y47.a y47.n y47.c), (.int .i64 0)] fun s15 ct15 => C.any fun _ =>
        cond (decide (s15.2 < 32)) (
          C.ix (some (Addr.mk b7 0 none)) 32 1 s15.2 fun p54 =>
          C.ld (.int .u8) 1 p54 fun v55 =>
          C.sem (Instr.buildSlice ty_sl_uint8 1 #[(0, (.int .u8 v55))]) .slice fun y56 =>
          C.sem (Builtin.append_ #[ty_sl_uint8, ty_sl_uint8] ty_sl_uint8 #[(.slice s15.1.a s15.1.n s15.1.c), (.slice y56.a y56.n y56.c)]) .slice fun y57 =>
          ct15 [(.slice y57.a y57.n y57.c), (.int .i64 (IntKind.wrap .i64 (s15.2 + 1)))]
        ) (
          C.loop (TL [.slice, (.int .i64)]) (embL [.slice, (.int .i64)]) [(.slice s15.1.a s15.1.n s15.1.c), (.int .i64 0)] fun s20 ct20 => C.any fun _ =>
          cond (decide (s20.2 < 32)) (
            C.ix (some (Addr.mk b9 0 none)) 32 1 s20.2 fun p64 =>
            C.ld (.int .u8) 1 p64 fun v65 =>
            C.sem (Instr.buildSlice ty_sl_uint8 1 #[(0, (.int .u8 v65))]) .slice fun y66 =>
            C.sem (Builtin.append_ #[ty_sl_uint8, ty_sl_uint8] ty_sl_uint8 #[(.slice s20.1.a s20.1.n s20.1.c), (.slice y66.a y66.n y66.c)]) .slice fun y67 =>
            ct20 [(.slice y67.a y67.n y67.c), (.int .i64 (IntKind.wrap .i64 (s20.2 + 1)))]
          ) (
            C.pur (Instr.build ty_impl_Blob #[(0, (.int .u8 2)), (1, (.slice s20.1.a s20.1.n s20.1.c))]) .agg fun y70 =>
            C.call n_ptr_spec_l05Store_put [(.pointer (some x0)), (.agg y70)] [.agg, (.int .i64)] fun r71 =>
            C.st 32 (Addr.mk b4 0 none) (.agg r71.1) <|
            C.ld .agg 32 (Addr.mk b4 0 none) fun z27 =>
            C.ret (.tuple #[(.agg z27), (.int .i64 r71.2)])
          )
        )
      )
    )
  )
theorem ptr_spec_l05Store_list_eq (C : Comb) (x0 : Addr) (x1 : Sl) : fT C Tryz.prog { loop := [(12, [(11, .slice), (12, (.int .i64))]), (16, [(11, .slice), (13, (.int .i64))])], join := [], anyOrder := [], pure := [] } n_ptr_spec_l05Store_list [(.pointer (some x0)), (.slice x1.a x1.n x1.c)] = ptr_spec_l05Store_list C x0 x1 := by kernel_rfl
theorem ptr_spec_l05Store_list_calls {R : Value → World → Prop} {w : World} (x0 : Addr) (x1 : Sl) (h : (ptr_spec_l05Store_list (real Tryz.prog R) x0 x1 : World → Prop) w) :
    Calls Tryz.prog n_ptr_spec_l05Store_list [(.pointer (some x0)), (.slice x1.a x1.n x1.c)].toArray w fun e w' => ∃ v, e = .returned v ∧ R v w' := fT_sound mixed { loop := [(12, [(11, .slice), (12, (.int .i64))]), (16, [(11, .slice), (13, (.int .i64))])], join := [], anyOrder := [], pure := [] } (by rw [ptr_spec_l05Store_list_eq]; exact h)

/-- laws.toByteS (70) -/
def laws_toByteS (C : Comb) (x0 : Sl) : C.St :=
  C.sem (Instr.makeSlice ty_sl_uint8 (.int .i64 (x0.n : Int)) (.int .i64 (x0.n : Int))) .slice fun y7 =>
  C.loop (TL [(.int .i64)]) (embL [(.int .i64)]) [(.int .i64 0)] fun s2 ct2 => C.any fun _ =>
  cond (decide (s2 < (x0.n : Int))) (
    C.ix x0.a x0.n 1 s2 fun p18 =>
    C.ld (.int .u8) 1 p18 fun v19 =>
    C.ix y7.a y7.n 1 s2 fun p20 =>
    C.st 1 p20 (.int .u8 v19) <|
    ct2 [(.int .i64 (IntKind.wrap .i64 (s2 + 1)))]
  ) (
    C.ret (.slice y7.a y7.n y7.c)
  )
theorem laws_toByteS_eq (C : Comb) (x0 : Sl) : fT C Tryz.prog { loop := [(3, [(4, (.int .i64))])], join := [], anyOrder := [], pure := [] } n_laws_toByteS [(.slice x0.a x0.n x0.c)] = laws_toByteS C x0 := by kernel_rfl
theorem laws_toByteS_calls {R : Value → World → Prop} {w : World} (x0 : Sl) (h : (laws_toByteS (real Tryz.prog R) x0 : World → Prop) w) :
    Calls Tryz.prog n_laws_toByteS [(.slice x0.a x0.n x0.c)].toArray w fun e w' => ∃ v, e = .returned v ∧ R v w' := fT_sound mixed { loop := [(3, [(4, (.int .i64))])], join := [], anyOrder := [], pure := [] } (by rw [laws_toByteS_eq]; exact h)

/-- slices.ContainsFunc[[][]byte,[]byte] (71) -/
def slices_ContainsFunc_sl_sl_byte_sl_byte (C : Comb) (x0 : Sl) (x1 : Value) : C.St :=
  C.call n_slices_IndexFunc_sl_sl_byte_sl_byte [(.slice x0.a x0.n x0.c), x1] [(.int .i64)] fun r7 =>
  C.ret (.bool (decide (r7 ≥ 0)))
theorem slices_ContainsFunc_sl_sl_byte_sl_byte_eq (C : Comb) (x0 : Sl) (x1 : Value) : fT C Tryz.prog { loop := [], join := [], anyOrder := [], pure := [] } n_slices_ContainsFunc_sl_sl_byte_sl_byte [(.slice x0.a x0.n x0.c), x1] = slices_ContainsFunc_sl_sl_byte_sl_byte C x0 x1 := by kernel_rfl
theorem slices_ContainsFunc_sl_sl_byte_sl_byte_calls {R : Value → World → Prop} {w : World} (x0 : Sl) (x1 : Value) (h : (slices_ContainsFunc_sl_sl_byte_sl_byte (real Tryz.prog R) x0 x1 : World → Prop) w) :
    Calls Tryz.prog n_slices_ContainsFunc_sl_sl_byte_sl_byte [(.slice x0.a x0.n x0.c), x1].toArray w fun e w' => ∃ v, e = .returned v ∧ R v w' := fT_sound mixed { loop := [], join := [], anyOrder := [], pure := [] } (by rw [slices_ContainsFunc_sl_sl_byte_sl_byte_eq]; exact h)

/-- impl.StoreList$1 (72) -/
def impl_StoreList_1 (C : Comb) (x0 : Sl) : C.St :=
  C.ret (.bool (decide ((x0.n : Int) > 1024)))
theorem impl_StoreList_1_eq (C : Comb) (x0 : Sl) : fT C Tryz.prog { loop := [], join := [], anyOrder := [], pure := [] } n_impl_StoreList_1 [(.slice x0.a x0.n x0.c)] = impl_StoreList_1 C x0 := by kernel_rfl
theorem impl_StoreList_1_calls {R : Value → World → Prop} {w : World} (x0 : Sl) (h : (impl_StoreList_1 (real Tryz.prog R) x0 : World → Prop) w) :
    Calls Tryz.prog n_impl_StoreList_1 [(.slice x0.a x0.n x0.c)].toArray w fun e w' => ∃ v, e = .returned v ∧ R v w' := fT_sound mixed { loop := [], join := [], anyOrder := [], pure := [] } (by rw [impl_StoreList_1_eq]; exact h)

/-- (impl.Blob).key (73) -/
def impl_Blob_key (C : Comb) (x0 : Array Value) : C.St :=
  C.new ty_impl_Blob (.agg x0) fun b1 =>
  C.new ty_impl_Key (.agg (Array.replicate 32 (.int .u8 0))) fun b2 =>
  C.ld (.int .u8) 1 ((Addr.mk b1 0 none).add 0) fun v4 =>
  C.ld .slice 1 ((Addr.mk b1 0 none).add 1) fun v6 =>
  C.call n_impl_hash [(.int .u8 v4), (.slice v6.a v6.n v6.c)] [.agg] fun r7 =>
  C.st 32 (Addr.mk b2 0 none) (.agg r7) <|
  C.ld .agg 32 (Addr.mk b2 0 none) fun z6 =>
  C.ret (.agg z6)
theorem impl_Blob_key_eq (C : Comb) (x0 : Array Value) : fT C Tryz.prog { loop := [], join := [], anyOrder := [], pure := [] } n_impl_Blob_key [(.agg x0)] = impl_Blob_key C x0 := by kernel_rfl
theorem impl_Blob_key_calls {R : Value → World → Prop} {w : World} (x0 : Array Value) (h : (impl_Blob_key (real Tryz.prog R) x0 : World → Prop) w) :
    Calls Tryz.prog n_impl_Blob_key [(.agg x0)].toArray w fun e w' => ∃ v, e = .returned v ∧ R v w' := fT_sound mixed { loop := [], join := [], anyOrder := [], pure := [] } (by rw [impl_Blob_key_eq]; exact h)

end Go.Proofs.YtffedfdhhglmkaaGreat
