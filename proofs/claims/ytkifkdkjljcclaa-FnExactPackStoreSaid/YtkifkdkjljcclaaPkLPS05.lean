/- Printed by a program of this claim's author: each Go function as a Lean function over abstract combinators, and the equation that says that T makes it of the loaded code. -/
import Derived.Test.YtkifkdkjljcclaaProg
import Derived.Test.YtkifkdkjljcclaaPkLPS02
namespace Go.Proofs.Ytkifkdkjljcclaa
open Go.Sx
theorem mixed : Try.prog.follows .mixedOrders = true := by kernel_rfl

abbrev n_laws_FnExactPackStore : Nat := 3
abbrev n_laws_szStore : Nat := 4
abbrev n_spec_PackStore : Nat := 5
abbrev n_laws_toStore : Nat := 6
abbrev n_impl_PackStore : Nat := 7
abbrev n_laws_eqByteS : Nat := 8
abbrev n_laws_eqStore : Nat := 9
abbrev n_laws_markStore : Nat := 10
abbrev n_laws_markByteS : Nat := 11
abbrev n_laws_heldByteS : Nat := 12
abbrev n_laws_szBlobS : Nat := 13
abbrev n_spec_l05Open : Nat := 14
abbrev n_spec_l06Pack : Nat := 15
abbrev n_laws_toBlobS : Nat := 16
abbrev n_impl_ValidStore : Nat := 17
abbrev n_impl_pack : Nat := 18
abbrev n_laws_eqBlobS : Nat := 19
abbrev n_laws_markBlobS : Nat := 20
abbrev n_laws_szBlob : Nat := 21
abbrev n_spec_l05Blob : Nat := 22
abbrev n_spec_l05Key : Nat := 23
abbrev n_spec_l01Compare : Nat := 24
abbrev n_spec_l06Delta : Nat := 25
abbrev n_spec_l01Hash : Nat := 26
abbrev n_laws_toBlob : Nat := 27
abbrev n_slices_ContainsFunc_sl_impl_Blob_impl_Blob : Nat := 28
abbrev n_impl_ValidStore_1 : Nat := 29
abbrev n_impl_ValidBlob : Nat := 30
abbrev n_impl_Store_keys : Nat := 31
abbrev n_impl_sorted : Nat := 32
abbrev n_slices_IsSortedFunc_sl_impl_Key_impl_Key : Nat := 33
abbrev n_impl_compareKeys : Nat := 34
abbrev n_impl_DeltaOf : Nat := 35
abbrev n_impl_Blob_key : Nat := 36
abbrev n_impl_appendLittle : Nat := 37
abbrev n_impl_keyOfPack : Nat := 38
abbrev n_laws_eqBlob : Nat := 39
abbrev n_laws_szByteS : Nat := 40
abbrev n_spec_l06Match : Nat := 41
abbrev n_spec_l06Plain : Nat := 42
abbrev n_spec_l01End : Nat := 43
abbrev n_spec_l01Start : Nat := 44
abbrev n_laws_toByteS : Nat := 45
abbrev n_slices_IndexFunc_sl_impl_Blob_impl_Blob : Nat := 46
abbrev n_slices_Clone_sl_impl_Key_impl_Key : Nat := 47
abbrev n_slices_SortFunc_sl_impl_Key_impl_Key : Nat := 48
abbrev n_slices_Compact_sl_impl_Key_impl_Key : Nat := 49
abbrev n_slices_Compare_sl_byte_byte : Nat := 50
abbrev n_impl_delta : Nat := 51
abbrev n_impl_hash : Nat := 52
abbrev n_spec_l01Padded : Nat := 53
abbrev n_spec_l01Mix : Nat := 54
abbrev n_spec_l01Block : Nat := 55
abbrev n_cmp_Compare_byte : Nat := 58
abbrev n_impl_delta_1 : Nat := 59
abbrev n_impl_blocks : Nat := 60
abbrev n_slices_Concat_sl_byte_byte : Nat := 61
abbrev n_impl_padding : Nat := 62
abbrev n_impl_size_byte : Nat := 63
abbrev n_impl_keyOf : Nat := 64
abbrev n_impl_mixed : Nat := 65
abbrev n_impl_StartState : Nat := 66
abbrev n_spec_l01Turn : Nat := 67
abbrev n_cmp_isNaN_byte : Nat := 78
abbrev n_slices_Grow_sl_byte_byte : Nat := 79
abbrev n_impl_MixBlock : Nat := 80
abbrev n_impl_littleNumber : Nat := 86
abbrev n_math_bits_RotateLeft32 : Nat := 87
abbrev ty_x : Nat := 0
abbrev ty_int64 : Nat := 2
abbrev ty_int : Nat := 3
abbrev ty_bool : Nat := 4
abbrev ty_uint8 : Nat := 5
abbrev ty_string : Nat := 9
abbrev ty_sl_laws_Blob : Nat := 22
abbrev ty_laws_Store : Nat := 24
abbrev ty_sl_uint8 : Nat := 26
abbrev ty_sl_impl_Blob : Nat := 29
abbrev ty_impl_Store : Nat := 31
abbrev ty_laws_Blob : Nat := 51
abbrev ty_sl_impl_Key : Nat := 52
abbrev ty_spec_l05Store : Nat := 54
abbrev ty_impl_Blob : Nat := 57
abbrev ty_arr32_uint8 : Nat := 58
abbrev ty_impl_Key : Nat := 59
abbrev ty_uint64 : Nat := 75
abbrev ty_uint32 : Nat := 82
abbrev ty_arr8_uint32 : Nat := 83
abbrev ty_sl_arr32_uint8 : Nat := 95
abbrev ty_sl_sl_uint8 : Nat := 115
def laws_FnExactPackStore (C : Comb) (x0 : Array Value) : C.St :=
 C.new ty_laws_Store (.agg x0) fun b1 =>
 C.ld .agg 1 (Addr.mk b1 0 none) fun v14 =>
 C.call n_laws_szStore [(.agg v14), (.int .i64 1048576)] [(.int .i64)] fun r16 =>
 cond (decide (r16 < 0)) (
 C.ret (.bool true)
 ) (
 C.ld .agg 1 (Addr.mk b1 0 none) fun v20 =>
 C.call n_laws_toStore [(.agg v20)] [.agg] fun r21 =>
 C.call n_spec_PackStore [(.agg r21)] [.slice, (.int .i64)] fun r22 =>
 C.ld .agg 1 (Addr.mk b1 0 none) fun v25 =>
 C.call n_laws_toStore [(.agg v25)] [.agg] fun r26 =>
 C.new ty_impl_Store (.agg (#[(.slice none 0 0)])) fun b6 =>
 C.st 1 (Addr.mk b6 0 none) (.agg r26) <|
 C.ld .agg 1 (Addr.mk b6 0 none) fun v28 =>
 C.call n_impl_PackStore [(.agg v28)] [.slice, (.int .i64)] fun r29 =>
 C.join (TL []) (embL []) (fun s13 => C.any fun _ =>
 C.join (TL []) (embL []) (fun s18 => C.any fun _ =>
 C.ld .agg 1 (Addr.mk b6 0 none) fun v46 =>
 C.call n_laws_markStore [(.agg v46), (.int .i64 1)] [(.int .i64)] fun r48 =>
 C.join (TL []) (embL []) (fun s22 => C.any fun _ =>
 C.call n_laws_markByteS [(.slice r29.1.a r29.1.n r29.1.c), (.int .i64 1)] [(.int .i64)] fun r64 =>
 C.call n_laws_heldByteS [(.slice r29.1.a r29.1.n r29.1.c), (.int .i64 1)] [(.int .i64)] fun r67 =>
 cond (decide (r67 < 0)) (
 C.ret (.bool false)
 ) (
 cond (r67 != r64) (
 C.ret (.bool false)
 ) (
 C.ld .agg 1 (Addr.mk b1 0 none) fun v74 =>
 C.call n_laws_toStore [(.agg v74)] [.agg] fun r75 =>
 C.call n_impl_PackStore [(.agg r75)] [.slice, (.int .i64)] fun r76 =>
 C.join (TL []) (embL []) (fun s29 => C.any fun _ =>
 C.call n_laws_heldByteS [(.slice r29.1.a r29.1.n r29.1.c), (.int .i64 1)] [(.int .i64)] fun r90 =>
 cond (decide (r90 < 0)) (
 C.ret (.bool false)
 ) (
 cond (r90 != r64) (
 C.ret (.bool false)
 ) (
 C.ret (.bool true)
 )
 )
 ) fun jt =>
 C.call n_laws_eqByteS [(.slice r76.1.a r76.1.n r76.1.c), (.slice r22.1.a r22.1.n r22.1.c)] [.bool] fun r81 =>
 cond (!r81) (
 C.ret (.bool false)
 ) (
 cond (r76.2 != r22.2) (
 C.ret (.bool false)
 ) (
 jt []
 )
 )
 )
 )
 ) fun jt =>
 cond (decide (r48 < 0)) (
 C.ret (.bool false)
 ) (
 C.call n_laws_eqByteS [(.slice r29.1.a r29.1.n r29.1.c), (.slice r22.1.a r22.1.n r22.1.c)] [.bool] fun r54 =>
 cond (!r54) (
 C.ret (.bool false)
 ) (
 cond (r29.2 != r22.2) (
 C.ret (.bool false)
 ) (
 jt []
 )
 )
 )
 ) fun jt =>
 C.draw <|
 C.ld .agg 1 (Addr.mk b6 0 none) fun v41 =>
 C.ld .agg 1 (Addr.mk b1 0 none) fun v42 =>
 C.call n_laws_toStore [(.agg v42)] [.agg] fun r43 =>
 C.chk [⟨0, 1, (Addr.mk b6 0 none), .agg, v41⟩] <|
 C.call n_laws_eqStore [(.agg v41), (.agg r43)] [.bool] fun r44 =>
 cond (!r44) (
 C.ret (.bool false)
 ) (
 jt []
 )
 ) fun jt =>
 C.call n_laws_eqByteS [(.slice r29.1.a r29.1.n r29.1.c), (.slice r22.1.a r22.1.n r22.1.c)] [.bool] fun r34 =>
 cond (!r34) (
 C.ret (.bool false)
 ) (
 cond (r29.2 != r22.2) (
 C.ret (.bool false)
 ) (
 jt []
 )
 )
 )
theorem laws_FnExactPackStore_eq (C : Comb) (x0 : Array Value) : fT C Try.prog ⟨[], [(120, []), (135, []), (183, []), (261, [])], [10], []⟩ n_laws_FnExactPackStore [(.agg x0)] = laws_FnExactPackStore C x0 := by kernel_rfl
theorem laws_FnExactPackStore_calls {R : Value → World → Prop} {w : World} (x0 : Array Value) (h : (laws_FnExactPackStore (real Try.prog R) x0 : World → Prop) w) :
    Calls Try.prog n_laws_FnExactPackStore [(.agg x0)].toArray w fun e w' => ∃ v, e = .returned v ∧ R v w' := fT_sound mixed ⟨[], [(120, []), (135, []), (183, []), (261, [])], [10], []⟩ (by rw [laws_FnExactPackStore_eq]; exact h)

def laws_szStore (C : Comb) (x0 : Array Value) (x1 : Int) : C.St :=
 C.new ty_laws_Store (.agg x0) fun b2 =>
 C.ld .slice 1 ((Addr.mk b2 0 none).add 0) fun v6 =>
 C.call n_laws_szBlobS [(.slice v6.a v6.n v6.c), (.int .i64 x1)] [(.int .i64)] fun r8 =>
 cond (decide (r8 < 0)) (
 C.ret (.int .i64 (-1))
 ) (
 C.ret (.int .i64 r8)
 )
theorem laws_szStore_eq (C : Comb) (x0 : Array Value) (x1 : Int) : fT C Try.prog ⟨[], [], [], []⟩ n_laws_szStore [(.agg x0), (.int .i64 x1)] = laws_szStore C x0 x1 := by kernel_rfl
theorem laws_szStore_calls {R : Value → World → Prop} {w : World} (x0 : Array Value) (x1 : Int) (h : (laws_szStore (real Try.prog R) x0 x1 : World → Prop) w) :
    Calls Try.prog n_laws_szStore [(.agg x0), (.int .i64 x1)].toArray w fun e w' => ∃ v, e = .returned v ∧ R v w' := fT_sound mixed ⟨[], [], [], []⟩ (by rw [laws_szStore_eq]; exact h)

def spec_PackStore (C : Comb) (x0 : Array Value) : C.St :=
 C.new ty_impl_Store (.agg x0) fun b1 =>
 C.call n_spec_l05Open [(.pointer (some (Addr.mk b1 0 none)))] [.optr, .bool] fun r7 =>
 cond (!r7.2) (
 C.sem (Instr.buildSlice ty_sl_uint8 0 #[]) .slice fun y12 =>
 C.ret (.tuple #[(.slice y12.a y12.n y12.c), (.int .i64 1)])
 ) (
 C.call n_spec_l06Pack [(.pointer r7.1)] [.slice] fun r14 =>
 C.ret (.tuple #[(.slice r14.a r14.n r14.c), (.int .i64 0)])
 )
theorem spec_PackStore_eq (C : Comb) (x0 : Array Value) : fT C Try.prog ⟨[], [], [], []⟩ n_spec_PackStore [(.agg x0)] = spec_PackStore C x0 := by kernel_rfl
theorem spec_PackStore_calls {R : Value → World → Prop} {w : World} (x0 : Array Value) (h : (spec_PackStore (real Try.prog R) x0 : World → Prop) w) :
    Calls Try.prog n_spec_PackStore [(.agg x0)].toArray w fun e w' => ∃ v, e = .returned v ∧ R v w' := fT_sound mixed ⟨[], [], [], []⟩ (by rw [spec_PackStore_eq]; exact h)

def laws_toStore (C : Comb) (x0 : Array Value) : C.St :=
 C.new ty_laws_Store (.agg x0) fun b1 =>
 C.new ty_impl_Store (.agg (#[(.slice none 0 0)])) fun b2 =>
 C.new ty_impl_Store (.agg (#[(.slice none 0 0)])) fun b3 =>
 C.ld .slice 1 ((Addr.mk b1 0 none).add 0) fun v5 =>
 C.call n_laws_toBlobS [(.slice v5.a v5.n v5.c)] [.slice] fun r6 =>
 C.st 1 ((Addr.mk b3 0 none).add 0) (.slice r6.a r6.n r6.c) <|
 C.ld .agg 1 (Addr.mk b3 0 none) fun v8 =>
 C.st 1 (Addr.mk b2 0 none) (.agg v8) <|
 C.ld .agg 1 (Addr.mk b2 0 none) fun z7 =>
 C.ret (.agg z7)
theorem laws_toStore_eq (C : Comb) (x0 : Array Value) : fT C Try.prog ⟨[], [], [], []⟩ n_laws_toStore [(.agg x0)] = laws_toStore C x0 := by kernel_rfl
theorem laws_toStore_calls {R : Value → World → Prop} {w : World} (x0 : Array Value) (h : (laws_toStore (real Try.prog R) x0 : World → Prop) w) :
    Calls Try.prog n_laws_toStore [(.agg x0)].toArray w fun e w' => ∃ v, e = .returned v ∧ R v w' := fT_sound mixed ⟨[], [], [], []⟩ (by rw [laws_toStore_eq]; exact h)

def impl_PackStore (C : Comb) (x0 : Array Value) : C.St :=
 C.new ty_impl_Store (.agg x0) fun b1 =>
 C.ld .agg 1 (Addr.mk b1 0 none) fun v4 =>
 C.call n_impl_ValidStore [(.agg v4)] [.bool] fun r5 =>
 cond (!r5) (
 C.ret (.tuple #[(.slice none 0 0), (.int .i64 1)])
 ) (
 C.ld .agg 1 (Addr.mk b1 0 none) fun v7 =>
 C.call n_impl_pack [(.agg v7)] [.slice] fun r8 =>
 C.ret (.tuple #[(.slice r8.a r8.n r8.c), (.int .i64 0)])
 )
theorem impl_PackStore_eq (C : Comb) (x0 : Array Value) : fT C Try.prog ⟨[], [], [], []⟩ n_impl_PackStore [(.agg x0)] = impl_PackStore C x0 := by kernel_rfl
theorem impl_PackStore_calls {R : Value → World → Prop} {w : World} (x0 : Array Value) (h : (impl_PackStore (real Try.prog R) x0 : World → Prop) w) :
    Calls Try.prog n_impl_PackStore [(.agg x0)].toArray w fun e w' => ∃ v, e = .returned v ∧ R v w' := fT_sound mixed ⟨[], [], [], []⟩ (by rw [impl_PackStore_eq]; exact h)

def laws_eqByteS (C : Comb) (x0 : Sl) (x1 : Sl) : C.St :=
 cond ((x0.n : Int) != (x1.n : Int)) (
 C.ret (.bool false)
 ) (
 C.loop (TL [(.int .i64)]) (embL [(.int .i64)]) [(.int .i64 0)] fun s1 ct1 => C.any fun _ =>
 cond (decide (s1 < (x0.n : Int))) (
 C.draw <|
 C.ix x0.a x0.n 1 s1 fun p19 =>
 C.ld (.int .u8) 1 p19 fun v20 =>
 C.ix x1.a x1.n 1 s1 fun p23 =>
 C.ld (.int .u8) 1 p23 fun v24 =>
 cond (v20 != v24) (
 C.ret (.bool false)
 ) (
 ct1 [(.int .i64 (IntKind.wrap .i64 (s1 + 1)))]
 )
 ) (
 C.ret (.bool true)
 )
 )
theorem laws_eqByteS_eq (C : Comb) (x0 : Sl) (x1 : Sl) : fT C Try.prog ⟨[(4, [(5, (.int .i64))])], [], [], []⟩ n_laws_eqByteS [(.slice x0.a x0.n x0.c), (.slice x1.a x1.n x1.c)] = laws_eqByteS C x0 x1 := by kernel_rfl
theorem laws_eqByteS_calls {R : Value → World → Prop} {w : World} (x0 : Sl) (x1 : Sl) (h : (laws_eqByteS (real Try.prog R) x0 x1 : World → Prop) w) :
    Calls Try.prog n_laws_eqByteS [(.slice x0.a x0.n x0.c), (.slice x1.a x1.n x1.c)].toArray w fun e w' => ∃ v, e = .returned v ∧ R v w' := fT_sound mixed ⟨[(4, [(5, (.int .i64))])], [], [], []⟩ (by rw [laws_eqByteS_eq]; exact h)

def laws_eqStore (C : Comb) (x0 : Array Value) (x1 : Array Value) : C.St :=
 C.new ty_impl_Store (.agg x0) fun b2 =>
 C.new ty_impl_Store (.agg x1) fun b3 =>
 C.ld .slice 1 ((Addr.mk b2 0 none).add 0) fun v6 =>
 C.ld .slice 1 ((Addr.mk b3 0 none).add 0) fun v8 =>
 C.call n_laws_eqBlobS [(.slice v6.a v6.n v6.c), (.slice v8.a v8.n v8.c)] [.bool] fun r9 =>
 cond (!r9) (
 C.ret (.bool false)
 ) (
 C.ret (.bool true)
 )
theorem laws_eqStore_eq (C : Comb) (x0 : Array Value) (x1 : Array Value) : fT C Try.prog ⟨[], [], [], []⟩ n_laws_eqStore [(.agg x0), (.agg x1)] = laws_eqStore C x0 x1 := by kernel_rfl
theorem laws_eqStore_calls {R : Value → World → Prop} {w : World} (x0 : Array Value) (x1 : Array Value) (h : (laws_eqStore (real Try.prog R) x0 x1 : World → Prop) w) :
    Calls Try.prog n_laws_eqStore [(.agg x0), (.agg x1)].toArray w fun e w' => ∃ v, e = .returned v ∧ R v w' := fT_sound mixed ⟨[], [], [], []⟩ (by rw [laws_eqStore_eq]; exact h)

def laws_markStore (C : Comb) (x0 : Array Value) (x1 : Int) : C.St :=
 C.new ty_impl_Store (.agg x0) fun b2 =>
 C.ld .slice 1 ((Addr.mk b2 0 none).add 0) fun v6 =>
 C.call n_laws_markBlobS [(.slice v6.a v6.n v6.c), (.int .i64 x1)] [(.int .i64)] fun r8 =>
 C.ret (.int .i64 r8)
theorem laws_markStore_eq (C : Comb) (x0 : Array Value) (x1 : Int) : fT C Try.prog ⟨[], [], [], []⟩ n_laws_markStore [(.agg x0), (.int .i64 x1)] = laws_markStore C x0 x1 := by kernel_rfl
theorem laws_markStore_calls {R : Value → World → Prop} {w : World} (x0 : Array Value) (x1 : Int) (h : (laws_markStore (real Try.prog R) x0 x1 : World → Prop) w) :
    Calls Try.prog n_laws_markStore [(.agg x0), (.int .i64 x1)].toArray w fun e w' => ∃ v, e = .returned v ∧ R v w' := fT_sound mixed ⟨[], [], [], []⟩ (by rw [laws_markStore_eq]; exact h)

def laws_markByteS (C : Comb) (x0 : Sl) (x1 : Int) : C.St :=
 C.loop (TL [(.int .i64), (.int .i64)]) (embL [(.int .i64), (.int .i64)]) [(.int .i64 x1), (.int .i64 0)] fun s1 ct1 => C.any fun _ =>
 cond (decide (s1.2 < (x0.n : Int))) (
 C.ix x0.a x0.n 1 s1.2 fun p16 =>
 C.st 1 p16 (.int .u8 (IntKind.wrap .u8 (s1.1))) <|
 ct1 [(.int .i64 (IntKind.wrap .i64 (s1.1 + 1))), (.int .i64 (IntKind.wrap .i64 (s1.2 + 1)))]
 ) (
 C.ret (.int .i64 s1.1)
 )
theorem laws_markByteS_eq (C : Comb) (x0 : Sl) (x1 : Int) : fT C Try.prog ⟨[(2, [(1, (.int .i64)), (5, (.int .i64))])], [], [], []⟩ n_laws_markByteS [(.slice x0.a x0.n x0.c), (.int .i64 x1)] = laws_markByteS C x0 x1 := by kernel_rfl
theorem laws_markByteS_calls {R : Value → World → Prop} {w : World} (x0 : Sl) (x1 : Int) (h : (laws_markByteS (real Try.prog R) x0 x1 : World → Prop) w) :
    Calls Try.prog n_laws_markByteS [(.slice x0.a x0.n x0.c), (.int .i64 x1)].toArray w fun e w' => ∃ v, e = .returned v ∧ R v w' := fT_sound mixed ⟨[(2, [(1, (.int .i64)), (5, (.int .i64))])], [], [], []⟩ (by rw [laws_markByteS_eq]; exact h)

def laws_heldByteS (C : Comb) (x0 : Sl) (x1 : Int) : C.St :=
 C.loop (TL [(.int .i64), (.int .i64)]) (embL [(.int .i64), (.int .i64)]) [(.int .i64 x1), (.int .i64 0)] fun s1 ct1 => C.any fun _ =>
 cond (decide (s1.2 < (x0.n : Int))) (
 C.ix x0.a x0.n 1 s1.2 fun p14 =>
 C.ld (.int .u8) 1 p14 fun v15 =>
 cond (v15 != (IntKind.wrap .u8 (s1.1))) (
 C.ret (.int .i64 (-1))
 ) (
 ct1 [(.int .i64 (IntKind.wrap .i64 (s1.1 + 1))), (.int .i64 (IntKind.wrap .i64 (s1.2 + 1)))]
 )
 ) (
 C.ret (.int .i64 s1.1)
 )
theorem laws_heldByteS_eq (C : Comb) (x0 : Sl) (x1 : Int) : fT C Try.prog ⟨[(2, [(1, (.int .i64)), (5, (.int .i64))])], [], [], []⟩ n_laws_heldByteS [(.slice x0.a x0.n x0.c), (.int .i64 x1)] = laws_heldByteS C x0 x1 := by kernel_rfl
theorem laws_heldByteS_calls {R : Value → World → Prop} {w : World} (x0 : Sl) (x1 : Int) (h : (laws_heldByteS (real Try.prog R) x0 x1 : World → Prop) w) :
    Calls Try.prog n_laws_heldByteS [(.slice x0.a x0.n x0.c), (.int .i64 x1)].toArray w fun e w' => ∃ v, e = .returned v ∧ R v w' := fT_sound mixed ⟨[(2, [(1, (.int .i64)), (5, (.int .i64))])], [], [], []⟩ (by rw [laws_heldByteS_eq]; exact h)

def laws_szBlobS (C : Comb) (x0 : Sl) (x1 : Int) : C.St :=
 cond (decide ((IntKind.wrap .i64 (x1 - (x0.n : Int))) < 0)) (
 C.ret (.int .i64 (-1))
 ) (
 C.loop (TL [(.int .i64), (.int .i64)]) (embL [(.int .i64), (.int .i64)]) [(.int .i64 (IntKind.wrap .i64 (x1 - (x0.n : Int)))), (.int .i64 0)] fun s1 ct1 => C.any fun _ =>
 cond (decide (s1.2 < (x0.n : Int))) (
 C.ix x0.a x0.n 2 s1.2 fun p20 =>
 C.ld .agg 2 p20 fun v21 =>
 C.call n_laws_szBlob [(.agg v21), (.int .i64 s1.1)] [(.int .i64)] fun r23 =>
 cond (decide (r23 < 0)) (
 C.ret (.int .i64 (-1))
 ) (
 ct1 [(.int .i64 r23), (.int .i64 (IntKind.wrap .i64 (s1.2 + 1)))]
 )
 ) (
 C.ret (.int .i64 s1.1)
 )
 )
theorem laws_szBlobS_eq (C : Comb) (x0 : Sl) (x1 : Int) : fT C Try.prog ⟨[(5, [(1, (.int .i64)), (5, (.int .i64))])], [], [], []⟩ n_laws_szBlobS [(.slice x0.a x0.n x0.c), (.int .i64 x1)] = laws_szBlobS C x0 x1 := by kernel_rfl
theorem laws_szBlobS_calls {R : Value → World → Prop} {w : World} (x0 : Sl) (x1 : Int) (h : (laws_szBlobS (real Try.prog R) x0 x1 : World → Prop) w) :
    Calls Try.prog n_laws_szBlobS [(.slice x0.a x0.n x0.c), (.int .i64 x1)].toArray w fun e w' => ∃ v, e = .returned v ∧ R v w' := fT_sound mixed ⟨[(5, [(1, (.int .i64)), (5, (.int .i64))])], [], [], []⟩ (by rw [laws_szBlobS_eq]; exact h)

def spec_l05Open (C : Comb) (x0 : Addr) : C.St :=
 C.pur (Instr.build ty_spec_l05Store #[]) .agg fun y7 =>
 C.new ty_spec_l05Store (.agg y7) fun b8 =>
 C.ld .slice 1 (x0.add 0) fun v12 =>
 cond (decide ((v12.n : Int) > 128)) (
 C.ret (.tuple #[(.pointer (some (Addr.mk b8 0 none))), (.bool false)])
 ) (
 C.loop (TL [(.int .i64)]) (embL [(.int .i64)]) [(.int .i64 0)] fun s4 ct4 => C.any fun _ =>
 C.ld .slice 1 (x0.add 0) fun v20 =>
 cond (decide (s4 < (v20.n : Int))) (
 C.ld .slice 1 (x0.add 0) fun v28 =>
 C.ix v28.a v28.n 2 s4 fun p30 =>
 C.call n_spec_l05Blob [(.pointer (some p30))] [.bool] fun r31 =>
 cond (!r31) (
 C.ret (.tuple #[(.pointer (some (Addr.mk b8 0 none))), (.bool false)])
 ) (
 C.ld .slice 1 (x0.add 0) fun v37 =>
 C.ix v37.a v37.n 2 s4 fun p39 =>
 C.call n_spec_l05Key [(.pointer (some p39))] [.agg] fun r40 =>
 C.new ty_impl_Key (.agg (Array.replicate 32 (.int .u8 0))) fun b6 =>
 C.st 32 (Addr.mk b6 0 none) (.agg r40) <|
 C.join (TL []) (embL []) (fun s26 => C.any fun _ =>
 C.join (TL []) (embL []) (fun s33 => C.any fun _ =>
 C.draw <|
 C.ld .slice 1 ((Addr.mk b8 0 none).add 1) fun v77 =>
 C.ld .agg 32 (Addr.mk b6 0 none) fun v78 =>
 C.sem (Instr.buildSlice ty_sl_impl_Key 1 #[(0, (.agg v78))]) .slice fun y79 =>
 C.chk [⟨4, 1, ((Addr.mk b8 0 none).add 1), .slice, v77⟩] <|
 C.sem (Builtin.append_ #[ty_sl_impl_Key, ty_sl_impl_Key] ty_sl_impl_Key #[(.slice v77.a v77.n v77.c), (.slice y79.a y79.n y79.c)]) .slice fun y80 =>
 C.st 1 ((Addr.mk b8 0 none).add 1) (.slice y80.a y80.n y80.c) <|
 ct4 [(.int .i64 (IntKind.wrap .i64 (s4 + 1)))]
 ) fun jt =>
 C.draw <|
 C.ld .slice 1 ((Addr.mk b8 0 none).add 0) fun v61 =>
 C.ld .slice 1 (x0.add 0) fun v65 =>
 C.ix v65.a v65.n 2 s4 fun p67 =>
 C.ld .agg 2 p67 fun v68 =>
 C.sem (Instr.buildSlice ty_sl_impl_Blob 1 #[(0, (.agg v68))]) .slice fun y69 =>
 C.chk [⟨8, 1, (x0.add 0), .slice, v65⟩, ⟨4, 1, ((Addr.mk b8 0 none).add 0), .slice, v61⟩] <|
 C.sem (Builtin.append_ #[ty_sl_impl_Blob, ty_sl_impl_Blob] ty_sl_impl_Blob #[(.slice v61.a v61.n v61.c), (.slice y69.a y69.n y69.c)]) .slice fun y70 =>
 C.chk [⟨8, 1, (x0.add 0), .slice, v65⟩] <|
 C.st 1 ((Addr.mk b8 0 none).add 0) (.slice y70.a y70.n y70.c) <|
 jt []
 ) fun jt =>
 C.draw <|
 cond (decide (s4 > 0)) (
 C.all [
 (C.ld .slice 1 ((Addr.mk b8 0 none).add 1) fun v47 =>
 C.ix v47.a v47.n 32 (IntKind.wrap .i64 (s4 - 1)) fun p50 =>
 C.all [
 (C.ld .agg 32 p50 fun v51 =>
 C.ld .agg 32 (Addr.mk b6 0 none) fun v52 =>
 C.call n_spec_l01Compare [(.agg v51), (.agg v52)] [(.int .i64)] fun r53 =>
 cond (decide (r53 ≥ 0)) (
 C.ret (.tuple #[(.pointer (some (Addr.mk b8 0 none))), (.bool false)])
 ) (
 jt []
 )),
 (C.ld .agg 32 (Addr.mk b6 0 none) fun v52 =>
 C.ld .agg 32 p50 fun v51 =>
 C.call n_spec_l01Compare [(.agg v51), (.agg v52)] [(.int .i64)] fun r53 =>
 cond (decide (r53 ≥ 0)) (
 C.ret (.tuple #[(.pointer (some (Addr.mk b8 0 none))), (.bool false)])
 ) (
 jt []
 ))]),
 (C.ld .agg 32 (Addr.mk b6 0 none) fun v52 =>
 C.ld .slice 1 ((Addr.mk b8 0 none).add 1) fun v47 =>
 C.ix v47.a v47.n 32 (IntKind.wrap .i64 (s4 - 1)) fun p50 =>
 C.ld .agg 32 p50 fun v51 =>
 C.call n_spec_l01Compare [(.agg v51), (.agg v52)] [(.int .i64)] fun r53 =>
 cond (decide (r53 ≥ 0)) (
 C.ret (.tuple #[(.pointer (some (Addr.mk b8 0 none))), (.bool false)])
 ) (
 jt []
 ))]
 ) (
 C.all [
 (C.all [
 (jt []),
 (jt [])]),
 (jt [])]
 )
 )
 ) (
 C.ret (.tuple #[(.pointer (some (Addr.mk b8 0 none))), (.bool true)])
 )
 )
theorem spec_l05Open_eq (C : Comb) (x0 : Addr) : fT C Try.prog ⟨[(5, [(5, (.int .i64))])], [(165, []), (37, [])], [10, 12, 13], []⟩ n_spec_l05Open [(.pointer (some x0))] = spec_l05Open C x0 := by kernel_rfl
theorem spec_l05Open_calls {R : Value → World → Prop} {w : World} (x0 : Addr) (h : (spec_l05Open (real Try.prog R) x0 : World → Prop) w) :
    Calls Try.prog n_spec_l05Open [(.pointer (some x0))].toArray w fun e w' => ∃ v, e = .returned v ∧ R v w' := fT_sound mixed ⟨[(5, [(5, (.int .i64))])], [(165, []), (37, [])], [10, 12, 13], []⟩ (by rw [spec_l05Open_eq]; exact h)

def spec_l06Pack (C : Comb) (x0 : Addr) : C.St :=
 C.sem (Instr.buildSlice ty_sl_uint8 4 #[(0, (.int .u8 72)), (1, (.int .u8 84)), (2, (.int .u8 80)), (3, (.int .u8 49))]) .slice fun y14 =>
 C.sem (convert ty_sl_uint8 ty_sl_uint8 (.slice y14.a y14.n y14.c)) .slice fun y15 =>
 C.loop (TL [.slice, (.int .i64)]) (embL [.slice, (.int .i64)]) [(.slice y15.a y15.n y15.c), (.int .i64 0)] fun s3 ct3 => C.any fun _ =>
 C.ld .slice 1 (x0.add 0) fun v20 =>
 cond (decide (s3.2 < (v20.n : Int))) (
 C.ld .slice 1 (x0.add 0) fun v28 =>
 C.ix v28.a v28.n 2 s3.2 fun p30 =>
 C.ld .slice 1 (p30.add 1) fun v34 =>
 C.loop (TL [(.int .i64), .slice, (.int .i64)]) (embL [(.int .i64), .slice, (.int .i64)]) [(.int .i64 (-1)), (.slice v34.a v34.n v34.c), (.int .i64 0)] fun s8 ct8 => C.any fun _ =>
 cond (decide (s8.2.2 < s3.2)) (
 C.draw <|
 C.ld .slice 1 (x0.add 0) fun v43 =>
 C.ix v43.a v43.n 2 s8.2.2 fun p45 =>
 C.ld (.int .u8) 1 (p45.add 0) fun v47 =>
 C.ld (.int .u8) 1 (p30.add 0) fun v51 =>
 cond (v47 != v51) (
 ct8 [(.int .i64 s8.1), (.slice s8.2.1.a s8.2.1.n s8.2.1.c), (.int .i64 (IntKind.wrap .i64 (s8.2.2 + 1)))]
 ) (
 C.join (TL [.slice, .bool]) (embL [.slice, .bool]) (fun s18 => C.any fun _ =>
 cond s18.2 (
 C.ld .slice 1 (p30.add 1) fun v77 =>
 cond (decide ((IntKind.wrap .i64 ((s18.1.n : Int) + 1)) < (v77.n : Int))) (
 cond (decide (s8.1 < 0)) (
 ct8 [(.int .i64 s8.2.2), (.slice s18.1.a s18.1.n s18.1.c), (.int .i64 (IntKind.wrap .i64 (s8.2.2 + 1)))]
 ) (
 cond (decide ((s18.1.n : Int) < (s8.2.1.n : Int))) (
 ct8 [(.int .i64 s8.2.2), (.slice s18.1.a s18.1.n s18.1.c), (.int .i64 (IntKind.wrap .i64 (s8.2.2 + 1)))]
 ) (
 ct8 [(.int .i64 s8.1), (.slice s8.2.1.a s8.2.1.n s8.2.1.c), (.int .i64 (IntKind.wrap .i64 (s8.2.2 + 1)))]
 )
 )
 ) (
 ct8 [(.int .i64 s8.1), (.slice s8.2.1.a s8.2.1.n s8.2.1.c), (.int .i64 (IntKind.wrap .i64 (s8.2.2 + 1)))]
 )
 ) (
 ct8 [(.int .i64 s8.1), (.slice s8.2.1.a s8.2.1.n s8.2.1.c), (.int .i64 (IntKind.wrap .i64 (s8.2.2 + 1)))]
 )
 ) fun jt =>
 C.draw <|
 C.ld .slice 1 (x0.add 0) fun v57 =>
 C.ix v57.a v57.n 2 s8.2.2 fun p59 =>
 C.ld .slice 1 (p59.add 1) fun v61 =>
 C.ld .slice 1 (p30.add 1) fun v65 =>
 C.call n_spec_l06Delta [(.slice v61.a v61.n v61.c), (.slice v65.a v65.n v65.c)] [.slice, .bool] fun r66 =>
 C.chk [⟨3, 1, (x0.add 0), .slice, v57⟩] <|
 jt [(.slice r66.1.a r66.1.n r66.1.c), (.bool r66.2)]
 )
 ) (
 C.join (TL [.slice]) (embL [.slice]) (fun s26 => C.any fun _ =>
 C.sem (Instr.buildSlice ty_sl_uint8 2 #[(0, (.int .u8 (IntKind.wrap .u8 ((Int.tmod (s8.2.1.n : Int) 256))))), (1, (.int .u8 (IntKind.wrap .u8 ((IntKind.wrap .i64 (Int.tdiv (s8.2.1.n : Int) 256))))))]) .slice fun y121 =>
 C.sem (Builtin.append_ #[ty_sl_uint8, ty_sl_uint8] ty_sl_uint8 #[(.slice s26.a s26.n s26.c), (.slice y121.a y121.n y121.c)]) .slice fun y122 =>
 C.sem (Builtin.append_ #[ty_sl_uint8, ty_sl_uint8] ty_sl_uint8 #[(.slice y122.a y122.n y122.c), (.slice s8.2.1.a s8.2.1.n s8.2.1.c)]) .slice fun y125 =>
 C.loop (TL [.slice, (.int .i64)]) (embL [.slice, (.int .i64)]) [(.slice y125.a y125.n y125.c), (.int .i64 0)] fun s30 ct30 => C.any fun _ =>
 cond (decide (s30.2 < 4)) (
 C.ld .slice 1 (x0.add 1) fun v134 =>
 C.ix v134.a v134.n 32 s3.2 fun p137 =>
 C.ix (some p137) 32 1 s30.2 fun p138 =>
 C.ld (.int .u8) 1 p138 fun v139 =>
 C.sem (Instr.buildSlice ty_sl_uint8 1 #[(0, (.int .u8 v139))]) .slice fun y140 =>
 C.sem (Builtin.append_ #[ty_sl_uint8, ty_sl_uint8] ty_sl_uint8 #[(.slice s30.1.a s30.1.n s30.1.c), (.slice y140.a y140.n y140.c)]) .slice fun y141 =>
 ct30 [(.slice y141.a y141.n y141.c), (.int .i64 (IntKind.wrap .i64 (s30.2 + 1)))]
 ) (
 ct3 [(.slice s30.1.a s30.1.n s30.1.c), (.int .i64 (IntKind.wrap .i64 (s3.2 + 1)))]
 )
 ) fun jt =>
 cond (decide (s8.1 < 0)) (
 C.ld (.int .u8) 1 (p30.add 0) fun v100 =>
 C.sem (Instr.buildSlice ty_sl_uint8 2 #[(0, (.int .u8 0)), (1, (.int .u8 v100))]) .slice fun y101 =>
 C.sem (Builtin.append_ #[ty_sl_uint8, ty_sl_uint8] ty_sl_uint8 #[(.slice s3.1.a s3.1.n s3.1.c), (.slice y101.a y101.n y101.c)]) .slice fun y102 =>
 jt [(.slice y102.a y102.n y102.c)]
 ) (
 C.ld (.int .u8) 1 (p30.add 0) fun v107 =>
 C.sem (Instr.buildSlice ty_sl_uint8 3 #[(0, (.int .u8 1)), (1, (.int .u8 v107)), (2, (.int .u8 (IntKind.wrap .u8 (s8.1))))]) .slice fun y110 =>
 C.sem (Builtin.append_ #[ty_sl_uint8, ty_sl_uint8] ty_sl_uint8 #[(.slice s3.1.a s3.1.n s3.1.c), (.slice y110.a y110.n y110.c)]) .slice fun y111 =>
 jt [(.slice y111.a y111.n y111.c)]
 )
 )
 ) (
 C.call n_spec_l01Hash [(.int .u8 8), (.slice s3.1.a s3.1.n s3.1.c)] [.agg] fun r143 =>
 C.new ty_impl_Key (.agg (Array.replicate 32 (.int .u8 0))) fun b12 =>
 C.st 32 (Addr.mk b12 0 none) (.agg r143) <|
 C.ld .slice 1 (x0.add 0) fun v148 =>
 C.sem (Instr.buildSlice ty_sl_uint8 2 #[(0, (.int .u8 2)), (1, (.int .u8 (IntKind.wrap .u8 ((v148.n : Int)))))]) .slice fun y151 =>
 C.sem (Builtin.append_ #[ty_sl_uint8, ty_sl_uint8] ty_sl_uint8 #[(.slice s3.1.a s3.1.n s3.1.c), (.slice y151.a y151.n y151.c)]) .slice fun y152 =>
 C.loop (TL [.slice, (.int .i64)]) (embL [.slice, (.int .i64)]) [(.slice y152.a y152.n y152.c), (.int .i64 0)] fun s42 ct42 => C.any fun _ =>
 cond (decide (s42.2 < 32)) (
 C.ix (some (Addr.mk b12 0 none)) 32 1 s42.2 fun p159 =>
 C.ld (.int .u8) 1 p159 fun v160 =>
 C.sem (Instr.buildSlice ty_sl_uint8 1 #[(0, (.int .u8 v160))]) .slice fun y161 =>
 C.sem (Builtin.append_ #[ty_sl_uint8, ty_sl_uint8] ty_sl_uint8 #[(.slice s42.1.a s42.1.n s42.1.c), (.slice y161.a y161.n y161.c)]) .slice fun y162 =>
 ct42 [(.slice y162.a y162.n y162.c), (.int .i64 (IntKind.wrap .i64 (s42.2 + 1)))]
 ) (
 C.ret (.slice s42.1.a s42.1.n s42.1.c)
 )
 )
theorem spec_l06Pack_eq (C : Comb) (x0 : Addr) : fT C Try.prog ⟨[(3, [(3, .slice), (4, (.int .i64))]), (9, [(6, (.int .i64)), (7, .slice), (8, (.int .i64))]), (22, [(3, .slice), (11, (.int .i64))]), (28, [(3, .slice), (13, (.int .i64))])], [(37, [(9, .slice), (10, .bool)]), (285, [(3, .slice)])], [12], []⟩ n_spec_l06Pack [(.pointer (some x0))] = spec_l06Pack C x0 := by kernel_rfl
theorem spec_l06Pack_calls {R : Value → World → Prop} {w : World} (x0 : Addr) (h : (spec_l06Pack (real Try.prog R) x0 : World → Prop) w) :
    Calls Try.prog n_spec_l06Pack [(.pointer (some x0))].toArray w fun e w' => ∃ v, e = .returned v ∧ R v w' := fT_sound mixed ⟨[(3, [(3, .slice), (4, (.int .i64))]), (9, [(6, (.int .i64)), (7, .slice), (8, (.int .i64))]), (22, [(3, .slice), (11, (.int .i64))]), (28, [(3, .slice), (13, (.int .i64))])], [(37, [(9, .slice), (10, .bool)]), (285, [(3, .slice)])], [12], []⟩ (by rw [spec_l06Pack_eq]; exact h)

def laws_toBlobS (C : Comb) (x0 : Sl) : C.St :=
 C.sem (Instr.makeSlice ty_sl_impl_Blob (.int .i64 (x0.n : Int)) (.int .i64 (x0.n : Int))) .slice fun y7 =>
 C.loop (TL [(.int .i64)]) (embL [(.int .i64)]) [(.int .i64 0)] fun s2 ct2 => C.any fun _ =>
 cond (decide (s2 < (x0.n : Int))) (
 C.ix x0.a x0.n 2 s2 fun p18 =>
 C.ld .agg 2 p18 fun v19 =>
 C.call n_laws_toBlob [(.agg v19)] [.agg] fun r20 =>
 C.ix y7.a y7.n 2 s2 fun p21 =>
 C.st 2 p21 (.agg r20) <|
 ct2 [(.int .i64 (IntKind.wrap .i64 (s2 + 1)))]
 ) (
 C.ret (.slice y7.a y7.n y7.c)
 )
theorem laws_toBlobS_eq (C : Comb) (x0 : Sl) : fT C Try.prog ⟨[(3, [(4, (.int .i64))])], [], [], []⟩ n_laws_toBlobS [(.slice x0.a x0.n x0.c)] = laws_toBlobS C x0 := by kernel_rfl
theorem laws_toBlobS_calls {R : Value → World → Prop} {w : World} (x0 : Sl) (h : (laws_toBlobS (real Try.prog R) x0 : World → Prop) w) :
    Calls Try.prog n_laws_toBlobS [(.slice x0.a x0.n x0.c)].toArray w fun e w' => ∃ v, e = .returned v ∧ R v w' := fT_sound mixed ⟨[(3, [(4, (.int .i64))])], [], [], []⟩ (by rw [laws_toBlobS_eq]; exact h)

def impl_ValidStore (C : Comb) (x0 : Array Value) : C.St :=
 C.new ty_impl_Store (.agg x0) fun b1 =>
 C.join (TL []) (embL []) (fun s5 => C.any fun _ =>
 C.ld .agg 1 (Addr.mk b1 0 none) fun v13 =>
 C.call n_impl_Store_keys [(.agg v13)] [.slice] fun r14 =>
 C.call n_impl_sorted [(.slice r14.a r14.n r14.c)] [.slice] fun r16 =>
 cond ((r16.n : Int) == (r14.n : Int)) (
 C.call n_slices_IsSortedFunc_sl_impl_Key_impl_Key [(.slice r14.a r14.n r14.c), (.func (.func n_impl_compareKeys) #[] #[])] [.bool] fun r23 =>
 C.ret (.bool r23)
 ) (
 C.ret (.bool false)
 )
 ) fun jt =>
 C.ld .slice 1 ((Addr.mk b1 0 none).add 0) fun v5 =>
 cond (decide ((v5.n : Int) > 128)) (
 C.ret (.bool false)
 ) (
 C.ld .slice 1 ((Addr.mk b1 0 none).add 0) fun v10 =>
 C.call n_slices_ContainsFunc_sl_impl_Blob_impl_Blob [(.slice v10.a v10.n v10.c), (.func (.func n_impl_ValidStore_1) #[] #[])] [.bool] fun r11 =>
 cond r11 (
 C.ret (.bool false)
 ) (
 jt []
 )
 )
theorem impl_ValidStore_eq (C : Comb) (x0 : Array Value) : fT C Try.prog ⟨[], [(36, [])], [], []⟩ n_impl_ValidStore [(.agg x0)] = impl_ValidStore C x0 := by kernel_rfl
theorem impl_ValidStore_calls {R : Value → World → Prop} {w : World} (x0 : Array Value) (h : (impl_ValidStore (real Try.prog R) x0 : World → Prop) w) :
    Calls Try.prog n_impl_ValidStore [(.agg x0)].toArray w fun e w' => ∃ v, e = .returned v ∧ R v w' := fT_sound mixed ⟨[], [(36, [])], [], []⟩ (by rw [impl_ValidStore_eq]; exact h)

def impl_pack (C : Comb) (x0 : Array Value) : C.St :=
 C.new ty_impl_Store (.agg x0) fun b1 =>
 C.sem (Instr.buildSlice ty_sl_uint8 4 #[(0, (.int .u8 72)), (1, (.int .u8 84)), (2, (.int .u8 80)), (3, (.int .u8 49))]) .slice fun y14 =>
 C.sem (convert ty_sl_uint8 ty_sl_uint8 (.slice y14.a y14.n y14.c)) .slice fun y15 =>
 C.ld .slice 1 ((Addr.mk b1 0 none).add 0) fun v17 =>
 C.loop (TL [.slice, (.int .i64)]) (embL [.slice, (.int .i64)]) [(.slice y15.a y15.n y15.c), (.int .i64 0)] fun s5 ct5 => C.any fun _ =>
 cond (decide (s5.2 < (v17.n : Int))) (
 C.ix v17.a v17.n 2 s5.2 fun p22 =>
 C.ld .agg 2 p22 fun v23 =>
 C.new ty_impl_Blob (.agg (#[(.int .u8 0), (.slice none 0 0)])) fun b5 =>
 C.st 2 (Addr.mk b5 0 none) (.agg v23) <|
 C.ld .slice 1 ((Addr.mk b1 0 none).add 0) fun v25 =>
 C.sl v25.a v25.n v25.c 2 none (some s5.2) none fun y27 =>
 C.loop (TL [.slice, (.int .i64), (.int .i64)]) (embL [.slice, (.int .i64), (.int .i64)]) [(.slice none 0 0), (.int .i64 (-1)), (.int .i64 0)] fun s11 ct11 => C.any fun _ =>
 cond (decide (s11.2.2 < (y27.n : Int))) (
 C.ix y27.a y27.n 2 s11.2.2 fun p32 =>
 C.ld .agg 2 p32 fun v33 =>
 C.new ty_impl_Blob (.agg (#[(.int .u8 0), (.slice none 0 0)])) fun b9 =>
 C.st 2 (Addr.mk b9 0 none) (.agg v33) <|
 C.ld (.int .u8) 1 ((Addr.mk b9 0 none).add 0) fun v35 =>
 C.ld (.int .u8) 1 ((Addr.mk b5 0 none).add 0) fun v37 =>
 cond (v35 != v37) (
 ct11 [(.slice s11.1.a s11.1.n s11.1.c), (.int .i64 s11.2.1), (.int .i64 (IntKind.wrap .i64 (s11.2.2 + 1)))]
 ) (
 C.ld .slice 1 ((Addr.mk b9 0 none).add 1) fun v41 =>
 C.ld .slice 1 ((Addr.mk b5 0 none).add 1) fun v43 =>
 C.call n_impl_DeltaOf [(.slice v41.a v41.n v41.c), (.slice v43.a v43.n v43.c)] [.slice, (.int .i64)] fun r44 =>
 cond (r44.2 == 0) (
 cond (decide (s11.2.1 < 0)) (
 ct11 [(.slice r44.1.a r44.1.n r44.1.c), (.int .i64 s11.2.2), (.int .i64 (IntKind.wrap .i64 (s11.2.2 + 1)))]
 ) (
 cond (decide ((r44.1.n : Int) < (s11.1.n : Int))) (
 ct11 [(.slice r44.1.a r44.1.n r44.1.c), (.int .i64 s11.2.2), (.int .i64 (IntKind.wrap .i64 (s11.2.2 + 1)))]
 ) (
 ct11 [(.slice s11.1.a s11.1.n s11.1.c), (.int .i64 s11.2.1), (.int .i64 (IntKind.wrap .i64 (s11.2.2 + 1)))]
 )
 )
 ) (
 ct11 [(.slice s11.1.a s11.1.n s11.1.c), (.int .i64 s11.2.1), (.int .i64 (IntKind.wrap .i64 (s11.2.2 + 1)))]
 )
 )
 ) (
 C.join (TL [.slice, .slice]) (embL [.slice, .slice]) (fun s29 => C.any fun _ =>
 C.ld .agg 2 (Addr.mk b5 0 none) fun v88 =>
 C.call n_impl_Blob_key [(.agg v88)] [.agg] fun r89 =>
 C.new ty_impl_Key (.agg (Array.replicate 32 (.int .u8 0))) fun b12 =>
 C.st 32 (Addr.mk b12 0 none) (.agg r89) <|
 C.draw <|
 C.sl (some (Addr.mk b12 0 none)) 32 32 1 none (some 4) none fun y98 =>
 C.call n_impl_appendLittle [(.slice s29.1.a s29.1.n s29.1.c), (.int .u64 (IntKind.wrap .u64 ((IntKind.wrap .u16 ((s29.2.n : Int)))))), (.int .i64 2)] [.slice] fun r95 =>
 C.sem (Builtin.append_ #[ty_sl_uint8, ty_sl_uint8] ty_sl_uint8 #[(.slice r95.a r95.n r95.c), (.slice s29.2.a s29.2.n s29.2.c)]) .slice fun y97 =>
 C.sem (Builtin.append_ #[ty_sl_uint8, ty_sl_uint8] ty_sl_uint8 #[(.slice y97.a y97.n y97.c), (.slice y98.a y98.n y98.c)]) .slice fun y99 =>
 ct5 [(.slice y99.a y99.n y99.c), (.int .i64 (IntKind.wrap .i64 (s5.2 + 1)))]
 ) fun jt =>
 C.join (TL [.bool]) (embL [.bool]) (fun s21 => C.any fun _ =>
 cond s21 (
 C.ld (.int .u8) 1 ((Addr.mk b5 0 none).add 0) fun v76 =>
 C.sem (Instr.buildSlice ty_sl_uint8 3 #[(0, (.int .u8 1)), (1, (.int .u8 v76)), (2, (.int .u8 (IntKind.wrap .u8 (s11.2.1))))]) .slice fun y79 =>
 C.sem (Builtin.append_ #[ty_sl_uint8, ty_sl_uint8] ty_sl_uint8 #[(.slice s5.1.a s5.1.n s5.1.c), (.slice y79.a y79.n y79.c)]) .slice fun y80 =>
 jt [(.slice y80.a y80.n y80.c), (.slice s11.1.a s11.1.n s11.1.c)]
 ) (
 C.draw <|
 C.ld (.int .u8) 1 ((Addr.mk b5 0 none).add 0) fun v83 =>
 C.ld .slice 1 ((Addr.mk b5 0 none).add 1) fun v87 =>
 C.sem (Instr.buildSlice ty_sl_uint8 2 #[(0, (.int .u8 0)), (1, (.int .u8 v83))]) .slice fun y84 =>
 C.chk [⟨6, 1, ((Addr.mk b5 0 none).add 1), .slice, v87⟩] <|
 C.sem (Builtin.append_ #[ty_sl_uint8, ty_sl_uint8] ty_sl_uint8 #[(.slice s5.1.a s5.1.n s5.1.c), (.slice y84.a y84.n y84.c)]) .slice fun y85 =>
 C.chk [⟨6, 1, ((Addr.mk b5 0 none).add 1), .slice, v87⟩] <|
 jt [(.slice y85.a y85.n y85.c), (.slice v87.a v87.n v87.c)]
 )
 ) fun jt1 =>
 cond (decide (s11.2.1 ≥ 0)) (
 C.ld .slice 1 ((Addr.mk b5 0 none).add 1) fun v70 =>
 jt1 [(.bool (decide ((IntKind.wrap .i64 ((s11.1.n : Int) + 1)) < (v70.n : Int))))]
 ) (
 jt1 [(.bool false)]
 )
 )
 ) (
 C.call n_impl_keyOfPack [(.slice s5.1.a s5.1.n s5.1.c)] [.agg] fun r102 =>
 C.new ty_impl_Key (.agg (Array.replicate 32 (.int .u8 0))) fun b13 =>
 C.st 32 (Addr.mk b13 0 none) (.agg r102) <|
 C.draw <|
 C.ld .slice 1 ((Addr.mk b1 0 none).add 0) fun v105 =>
 C.sl (some (Addr.mk b13 0 none)) 32 32 1 none none none fun y110 =>
 C.sem (Instr.buildSlice ty_sl_uint8 2 #[(0, (.int .u8 2)), (1, (.int .u8 (IntKind.wrap .u8 ((v105.n : Int)))))]) .slice fun y108 =>
 C.chk [⟨2, 1, ((Addr.mk b1 0 none).add 0), .slice, v105⟩] <|
 C.sem (Builtin.append_ #[ty_sl_uint8, ty_sl_uint8] ty_sl_uint8 #[(.slice s5.1.a s5.1.n s5.1.c), (.slice y108.a y108.n y108.c)]) .slice fun y109 =>
 C.chk [⟨2, 1, ((Addr.mk b1 0 none).add 0), .slice, v105⟩] <|
 C.sem (Builtin.append_ #[ty_sl_uint8, ty_sl_uint8] ty_sl_uint8 #[(.slice y109.a y109.n y109.c), (.slice y110.a y110.n y110.c)]) .slice fun y111 =>
 C.chk [⟨2, 1, ((Addr.mk b1 0 none).add 0), .slice, v105⟩] <|
 C.ret (.slice y111.a y111.n y111.c)
 )
theorem impl_pack_eq (C : Comb) (x0 : Array Value) : fT C Try.prog ⟨[(3, [(3, .slice), (19, (.int .i64))]), (7, [(6, .slice), (7, (.int .i64)), (29, (.int .i64))])], [(43, [(73, .bool)]), (219, [(3, .slice), (6, .slice)])], [16, 18, 21], []⟩ n_impl_pack [(.agg x0)] = impl_pack C x0 := by kernel_rfl
theorem impl_pack_calls {R : Value → World → Prop} {w : World} (x0 : Array Value) (h : (impl_pack (real Try.prog R) x0 : World → Prop) w) :
    Calls Try.prog n_impl_pack [(.agg x0)].toArray w fun e w' => ∃ v, e = .returned v ∧ R v w' := fT_sound mixed ⟨[(3, [(3, .slice), (19, (.int .i64))]), (7, [(6, .slice), (7, (.int .i64)), (29, (.int .i64))])], [(43, [(73, .bool)]), (219, [(3, .slice), (6, .slice)])], [16, 18, 21], []⟩ (by rw [impl_pack_eq]; exact h)

def laws_eqBlobS (C : Comb) (x0 : Sl) (x1 : Sl) : C.St :=
 cond ((x0.n : Int) != (x1.n : Int)) (
 C.ret (.bool false)
 ) (
 C.loop (TL [(.int .i64)]) (embL [(.int .i64)]) [(.int .i64 0)] fun s1 ct1 => C.any fun _ =>
 cond (decide (s1 < (x0.n : Int))) (
 C.draw <|
 C.ix x0.a x0.n 2 s1 fun p19 =>
 C.ld .agg 2 p19 fun v20 =>
 C.ix x1.a x1.n 2 s1 fun p23 =>
 C.ld .agg 2 p23 fun v24 =>
 C.call n_laws_eqBlob [(.agg v20), (.agg v24)] [.bool] fun r25 =>
 cond (!r25) (
 C.ret (.bool false)
 ) (
 ct1 [(.int .i64 (IntKind.wrap .i64 (s1 + 1)))]
 )
 ) (
 C.ret (.bool true)
 )
 )
theorem laws_eqBlobS_eq (C : Comb) (x0 : Sl) (x1 : Sl) : fT C Try.prog ⟨[(4, [(5, (.int .i64))])], [], [6], []⟩ n_laws_eqBlobS [(.slice x0.a x0.n x0.c), (.slice x1.a x1.n x1.c)] = laws_eqBlobS C x0 x1 := by kernel_rfl
theorem laws_eqBlobS_calls {R : Value → World → Prop} {w : World} (x0 : Sl) (x1 : Sl) (h : (laws_eqBlobS (real Try.prog R) x0 x1 : World → Prop) w) :
    Calls Try.prog n_laws_eqBlobS [(.slice x0.a x0.n x0.c), (.slice x1.a x1.n x1.c)].toArray w fun e w' => ∃ v, e = .returned v ∧ R v w' := fT_sound mixed ⟨[(4, [(5, (.int .i64))])], [], [6], []⟩ (by rw [laws_eqBlobS_eq]; exact h)

def laws_markBlobS (C : Comb) (x0 : Sl) (x1 : Int) : C.St :=
 C.loop (TL [(.int .i64), (.int .i64)]) (embL [(.int .i64), (.int .i64)]) [(.int .i64 x1), (.int .i64 0)] fun s1 ct1 => C.any fun _ =>
 cond (decide (s1.2 < (x0.n : Int))) (
 C.ix x0.a x0.n 2 s1.2 fun p16 =>
 C.st 1 (p16.add 0) (.int .u8 (IntKind.wrap .u8 (s1.1))) <|
 C.ix x0.a x0.n 2 s1.2 fun p22 =>
 C.ld .slice 1 (p22.add 1) fun v24 =>
 C.call n_laws_markByteS [(.slice v24.a v24.n v24.c), (.int .i64 (IntKind.wrap .i64 (s1.1 + 1)))] [(.int .i64)] fun r26 =>
 ct1 [(.int .i64 r26), (.int .i64 (IntKind.wrap .i64 (s1.2 + 1)))]
 ) (
 C.ret (.int .i64 s1.1)
 )
theorem laws_markBlobS_eq (C : Comb) (x0 : Sl) (x1 : Int) : fT C Try.prog ⟨[(2, [(1, (.int .i64)), (5, (.int .i64))])], [], [], []⟩ n_laws_markBlobS [(.slice x0.a x0.n x0.c), (.int .i64 x1)] = laws_markBlobS C x0 x1 := by kernel_rfl
theorem laws_markBlobS_calls {R : Value → World → Prop} {w : World} (x0 : Sl) (x1 : Int) (h : (laws_markBlobS (real Try.prog R) x0 x1 : World → Prop) w) :
    Calls Try.prog n_laws_markBlobS [(.slice x0.a x0.n x0.c), (.int .i64 x1)].toArray w fun e w' => ∃ v, e = .returned v ∧ R v w' := fT_sound mixed ⟨[(2, [(1, (.int .i64)), (5, (.int .i64))])], [], [], []⟩ (by rw [laws_markBlobS_eq]; exact h)

def laws_szBlob (C : Comb) (x0 : Array Value) (x1 : Int) : C.St :=
 C.new ty_laws_Blob (.agg x0) fun b2 =>
 C.ld .slice 1 ((Addr.mk b2 0 none).add 1) fun v6 =>
 C.call n_laws_szByteS [(.slice v6.a v6.n v6.c), (.int .i64 x1)] [(.int .i64)] fun r8 =>
 cond (decide (r8 < 0)) (
 C.ret (.int .i64 (-1))
 ) (
 C.ret (.int .i64 r8)
 )
theorem laws_szBlob_eq (C : Comb) (x0 : Array Value) (x1 : Int) : fT C Try.prog ⟨[], [], [], []⟩ n_laws_szBlob [(.agg x0), (.int .i64 x1)] = laws_szBlob C x0 x1 := by kernel_rfl
theorem laws_szBlob_calls {R : Value → World → Prop} {w : World} (x0 : Array Value) (x1 : Int) (h : (laws_szBlob (real Try.prog R) x0 x1 : World → Prop) w) :
    Calls Try.prog n_laws_szBlob [(.agg x0), (.int .i64 x1)].toArray w fun e w' => ∃ v, e = .returned v ∧ R v w' := fT_sound mixed ⟨[], [], [], []⟩ (by rw [laws_szBlob_eq]; exact h)

def spec_l05Blob (C : Comb) (x0 : Addr) : C.St :=
 C.ld .slice 1 (x0.add 1) fun v6 =>
 C.ret (.bool (decide ((v6.n : Int) ≤ 1024)))
theorem spec_l05Blob_eq (C : Comb) (x0 : Addr) : fT C Try.prog ⟨[], [], [], []⟩ n_spec_l05Blob [(.pointer (some x0))] = spec_l05Blob C x0 := by kernel_rfl
theorem spec_l05Blob_calls {R : Value → World → Prop} {w : World} (x0 : Addr) (h : (spec_l05Blob (real Try.prog R) x0 : World → Prop) w) :
    Calls Try.prog n_spec_l05Blob [(.pointer (some x0))].toArray w fun e w' => ∃ v, e = .returned v ∧ R v w' := fT_sound mixed ⟨[], [], [], []⟩ (by rw [spec_l05Blob_eq]; exact h)

def spec_l05Key (C : Comb) (x0 : Addr) : C.St :=
 C.new ty_impl_Key (.agg (Array.replicate 32 (.int .u8 0))) fun b2 =>
 C.draw <|
 C.ld (.int .u8) 1 (x0.add 0) fun v6 =>
 C.ld .slice 1 (x0.add 1) fun v10 =>
 C.call n_spec_l01Hash [(.int .u8 v6), (.slice v10.a v10.n v10.c)] [.agg] fun r11 =>
 C.st 32 (Addr.mk b2 0 none) (.agg r11) <|
 C.ld .agg 32 (Addr.mk b2 0 none) fun z5 =>
 C.ret (.agg z5)
theorem spec_l05Key_eq (C : Comb) (x0 : Addr) : fT C Try.prog ⟨[], [], [1], []⟩ n_spec_l05Key [(.pointer (some x0))] = spec_l05Key C x0 := by kernel_rfl
theorem spec_l05Key_calls {R : Value → World → Prop} {w : World} (x0 : Addr) (h : (spec_l05Key (real Try.prog R) x0 : World → Prop) w) :
    Calls Try.prog n_spec_l05Key [(.pointer (some x0))].toArray w fun e w' => ∃ v, e = .returned v ∧ R v w' := fT_sound mixed ⟨[], [], [1], []⟩ (by rw [spec_l05Key_eq]; exact h)

def spec_l01Compare (C : Comb) (x0 : Array Value) (x1 : Array Value) : C.St :=
 C.new ty_impl_Key (.agg x0) fun b2 =>
 C.new ty_impl_Key (.agg x1) fun b3 =>
 C.loop (TL [(.int .i64)]) (embL [(.int .i64)]) [(.int .i64 0)] fun s3 ct3 => C.any fun _ =>
 cond (decide (s3 < 32)) (
 C.draw <|
 C.ix (some (Addr.mk b2 0 none)) 32 1 s3 fun p11 =>
 C.ld (.int .u8) 1 p11 fun v12 =>
 C.ix (some (Addr.mk b3 0 none)) 32 1 s3 fun p14 =>
 C.ld (.int .u8) 1 p14 fun v15 =>
 cond (v12 != v15) (
 C.draw <|
 C.ix (some (Addr.mk b2 0 none)) 32 1 s3 fun p18 =>
 C.ld (.int .u8) 1 p18 fun v19 =>
 C.ix (some (Addr.mk b3 0 none)) 32 1 s3 fun p21 =>
 C.ld (.int .u8) 1 p21 fun v22 =>
 cond (decide (v19 < v22)) (
 C.ret (.int .i64 (-1))
 ) (
 C.ret (.int .i64 1)
 )
 ) (
 ct3 [(.int .i64 (IntKind.wrap .i64 (s3 + 1)))]
 )
 ) (
 C.ret (.int .i64 0)
 )
theorem spec_l01Compare_eq (C : Comb) (x0 : Array Value) (x1 : Array Value) : fT C Try.prog ⟨[(2, [(5, (.int .i64))])], [], [], []⟩ n_spec_l01Compare [(.agg x0), (.agg x1)] = spec_l01Compare C x0 x1 := by kernel_rfl
theorem spec_l01Compare_calls {R : Value → World → Prop} {w : World} (x0 : Array Value) (x1 : Array Value) (h : (spec_l01Compare (real Try.prog R) x0 x1 : World → Prop) w) :
    Calls Try.prog n_spec_l01Compare [(.agg x0), (.agg x1)].toArray w fun e w' => ∃ v, e = .returned v ∧ R v w' := fT_sound mixed ⟨[(2, [(5, (.int .i64))])], [], [], []⟩ (by rw [spec_l01Compare_eq]; exact h)

def spec_l06Delta (C : Comb) (x0 : Sl) (x1 : Sl) : C.St :=
 C.sem (Instr.buildSlice ty_sl_uint8 0 #[]) .slice fun y13 =>
 C.sem (Instr.buildSlice ty_sl_uint8 0 #[]) .slice fun y14 =>
 C.loop (TL [.slice, .slice, (.int .i64)]) (embL [.slice, .slice, (.int .i64)]) [(.slice y13.a y13.n y13.c), (.slice y14.a y14.n y14.c), (.int .i64 0)] fun s3 ct3 => C.any fun _ =>
 cond (decide (s3.2.2 < (x1.n : Int))) (
 C.loop (TL [(.int .i64), (.int .i64), (.int .i64)]) (embL [(.int .i64), (.int .i64), (.int .i64)]) [(.int .i64 0), (.int .i64 0), (.int .i64 0)] fun s4 ct4 => C.any fun _ =>
 cond (decide (s4.2.2 < (x0.n : Int))) (
 C.join (TL [(.int .i64)]) (embL [(.int .i64)]) (fun s8 => C.any fun _ =>
 cond (decide (s8 > s4.1)) (
 ct4 [(.int .i64 s8), (.int .i64 s4.2.2), (.int .i64 (IntKind.wrap .i64 (s4.2.2 + 1)))]
 ) (
 ct4 [(.int .i64 s4.1), (.int .i64 s4.2.1), (.int .i64 (IntKind.wrap .i64 (s4.2.2 + 1)))]
 )
 ) fun jt =>
 C.draw <|
 C.sl x0.a x0.n x0.c 1 (some s4.2.2) none none fun y27 =>
 C.sl x1.a x1.n x1.c 1 (some s3.2.2) none none fun y30 =>
 C.call n_spec_l06Match [(.slice y27.a y27.n y27.c), (.slice y30.a y30.n y30.c)] [(.int .i64)] fun r31 =>
 jt [(.int .i64 r31)]
 ) (
 cond (decide (s4.1 < 8)) (
 C.ix x1.a x1.n 1 s3.2.2 fun p42 =>
 C.ld (.int .u8) 1 p42 fun v43 =>
 C.sem (Instr.buildSlice ty_sl_uint8 1 #[(0, (.int .u8 v43))]) .slice fun y44 =>
 C.sem (Builtin.append_ #[ty_sl_uint8, ty_sl_uint8] ty_sl_uint8 #[(.slice s3.2.1.a s3.2.1.n s3.2.1.c), (.slice y44.a y44.n y44.c)]) .slice fun y45 =>
 ct3 [(.slice s3.1.a s3.1.n s3.1.c), (.slice y45.a y45.n y45.c), (.int .i64 (IntKind.wrap .i64 (s3.2.2 + 1)))]
 ) (
 C.call n_spec_l06Plain [(.slice s3.1.a s3.1.n s3.1.c), (.slice s3.2.1.a s3.2.1.n s3.2.1.c)] [.slice] fun r50 =>
 C.sem (Instr.buildSlice ty_sl_uint8 0 #[]) .slice fun y51 =>
 C.sem (Instr.buildSlice ty_sl_uint8 4 #[(0, (.int .u8 1)), (1, (.int .u8 (IntKind.wrap .u8 ((Int.tmod s4.2.1 256))))), (2, (.int .u8 (IntKind.wrap .u8 ((IntKind.wrap .i64 (Int.tdiv s4.2.1 256)))))), (3, (.int .u8 (IntKind.wrap .u8 (s4.1))))]) .slice fun y61 =>
 C.sem (Builtin.append_ #[ty_sl_uint8, ty_sl_uint8] ty_sl_uint8 #[(.slice r50.a r50.n r50.c), (.slice y61.a y61.n y61.c)]) .slice fun y62 =>
 ct3 [(.slice y62.a y62.n y62.c), (.slice y51.a y51.n y51.c), (.int .i64 (IntKind.wrap .i64 (s3.2.2 + s4.1)))]
 )
 )
 ) (
 C.call n_spec_l06Plain [(.slice s3.1.a s3.1.n s3.1.c), (.slice s3.2.1.a s3.2.1.n s3.2.1.c)] [.slice] fun r68 =>
 C.ret (.tuple #[(.slice r68.a r68.n r68.c), (.bool (decide ((r68.n : Int) ≤ 1024)))])
 )
theorem spec_l06Delta_eq (C : Comb) (x0 : Sl) (x1 : Sl) : fT C Try.prog ⟨[(4, [(6, .slice), (7, .slice), (8, (.int .i64))]), (8, [(9, (.int .i64)), (10, (.int .i64)), (11, (.int .i64))])], [(31, [(12, (.int .i64))])], [10], []⟩ n_spec_l06Delta [(.slice x0.a x0.n x0.c), (.slice x1.a x1.n x1.c)] = spec_l06Delta C x0 x1 := by kernel_rfl
theorem spec_l06Delta_calls {R : Value → World → Prop} {w : World} (x0 : Sl) (x1 : Sl) (h : (spec_l06Delta (real Try.prog R) x0 x1 : World → Prop) w) :
    Calls Try.prog n_spec_l06Delta [(.slice x0.a x0.n x0.c), (.slice x1.a x1.n x1.c)].toArray w fun e w' => ∃ v, e = .returned v ∧ R v w' := fT_sound mixed ⟨[(4, [(6, .slice), (7, .slice), (8, (.int .i64))]), (8, [(9, (.int .i64)), (10, (.int .i64)), (11, (.int .i64))])], [(31, [(12, (.int .i64))])], [10], []⟩ (by rw [spec_l06Delta_eq]; exact h)

def spec_l01Hash (C : Comb) (x0 : Int) (x1 : Sl) : C.St :=
 C.new ty_impl_Key (.agg (Array.replicate 32 (.int .u8 0))) fun b4 =>
 C.call n_spec_l01Start [(.int .u8 x0)] [.agg] fun r6 =>
 C.call n_spec_l01End [(.agg r6), (.slice x1.a x1.n x1.c), (.int .i64 (x1.n : Int))] [.agg] fun r10 =>
 C.st 32 (Addr.mk b4 0 none) (.agg r10) <|
 C.ld .agg 32 (Addr.mk b4 0 none) fun z4 =>
 C.ret (.agg z4)
theorem spec_l01Hash_eq (C : Comb) (x0 : Int) (x1 : Sl) : fT C Try.prog ⟨[], [], [], []⟩ n_spec_l01Hash [(.int .u8 x0), (.slice x1.a x1.n x1.c)] = spec_l01Hash C x0 x1 := by kernel_rfl
theorem spec_l01Hash_calls {R : Value → World → Prop} {w : World} (x0 : Int) (x1 : Sl) (h : (spec_l01Hash (real Try.prog R) x0 x1 : World → Prop) w) :
    Calls Try.prog n_spec_l01Hash [(.int .u8 x0), (.slice x1.a x1.n x1.c)].toArray w fun e w' => ∃ v, e = .returned v ∧ R v w' := fT_sound mixed ⟨[], [], [], []⟩ (by rw [spec_l01Hash_eq]; exact h)

def laws_toBlob (C : Comb) (x0 : Array Value) : C.St :=
 C.new ty_laws_Blob (.agg x0) fun b1 =>
 C.new ty_impl_Blob (.agg (#[(.int .u8 0), (.slice none 0 0)])) fun b2 =>
 C.new ty_impl_Blob (.agg (#[(.int .u8 0), (.slice none 0 0)])) fun b3 =>
 C.ld (.int .u8) 1 ((Addr.mk b1 0 none).add 0) fun v5 =>
 C.st 1 ((Addr.mk b3 0 none).add 0) (.int .u8 v5) <|
 C.ld .slice 1 ((Addr.mk b1 0 none).add 1) fun v8 =>
 C.call n_laws_toByteS [(.slice v8.a v8.n v8.c)] [.slice] fun r9 =>
 C.st 1 ((Addr.mk b3 0 none).add 1) (.slice r9.a r9.n r9.c) <|
 C.ld .agg 2 (Addr.mk b3 0 none) fun v11 =>
 C.st 2 (Addr.mk b2 0 none) (.agg v11) <|
 C.ld .agg 2 (Addr.mk b2 0 none) fun z8 =>
 C.ret (.agg z8)
theorem laws_toBlob_eq (C : Comb) (x0 : Array Value) : fT C Try.prog ⟨[], [], [], []⟩ n_laws_toBlob [(.agg x0)] = laws_toBlob C x0 := by kernel_rfl
theorem laws_toBlob_calls {R : Value → World → Prop} {w : World} (x0 : Array Value) (h : (laws_toBlob (real Try.prog R) x0 : World → Prop) w) :
    Calls Try.prog n_laws_toBlob [(.agg x0)].toArray w fun e w' => ∃ v, e = .returned v ∧ R v w' := fT_sound mixed ⟨[], [], [], []⟩ (by rw [laws_toBlob_eq]; exact h)

def slices_ContainsFunc_sl_impl_Blob_impl_Blob (C : Comb) (x0 : Sl) (x1 : Value) : C.St :=
 C.call n_slices_IndexFunc_sl_impl_Blob_impl_Blob [(.slice x0.a x0.n x0.c), x1] [(.int .i64)] fun r7 =>
 C.ret (.bool (decide (r7 ≥ 0)))
theorem slices_ContainsFunc_sl_impl_Blob_impl_Blob_eq (C : Comb) (x0 : Sl) (x1 : Value) : fT C Try.prog ⟨[], [], [], []⟩ n_slices_ContainsFunc_sl_impl_Blob_impl_Blob [(.slice x0.a x0.n x0.c), x1] = slices_ContainsFunc_sl_impl_Blob_impl_Blob C x0 x1 := by kernel_rfl
theorem slices_ContainsFunc_sl_impl_Blob_impl_Blob_calls {R : Value → World → Prop} {w : World} (x0 : Sl) (x1 : Value) (h : (slices_ContainsFunc_sl_impl_Blob_impl_Blob (real Try.prog R) x0 x1 : World → Prop) w) :
    Calls Try.prog n_slices_ContainsFunc_sl_impl_Blob_impl_Blob [(.slice x0.a x0.n x0.c), x1].toArray w fun e w' => ∃ v, e = .returned v ∧ R v w' := fT_sound mixed ⟨[], [], [], []⟩ (by rw [slices_ContainsFunc_sl_impl_Blob_impl_Blob_eq]; exact h)

def impl_ValidStore_1 (C : Comb) (x0 : Array Value) : C.St :=
 C.new ty_impl_Blob (.agg x0) fun b1 =>
 C.ld .agg 2 (Addr.mk b1 0 none) fun v3 =>
 C.call n_impl_ValidBlob [(.agg v3)] [.bool] fun r4 =>
 C.ret (.bool (!r4))
theorem impl_ValidStore_1_eq (C : Comb) (x0 : Array Value) : fT C Try.prog ⟨[], [], [], []⟩ n_impl_ValidStore_1 [(.agg x0)] = impl_ValidStore_1 C x0 := by kernel_rfl
theorem impl_ValidStore_1_calls {R : Value → World → Prop} {w : World} (x0 : Array Value) (h : (impl_ValidStore_1 (real Try.prog R) x0 : World → Prop) w) :
    Calls Try.prog n_impl_ValidStore_1 [(.agg x0)].toArray w fun e w' => ∃ v, e = .returned v ∧ R v w' := fT_sound mixed ⟨[], [], [], []⟩ (by rw [impl_ValidStore_1_eq]; exact h)

def impl_ValidBlob (C : Comb) (x0 : Array Value) : C.St :=
 C.new ty_impl_Blob (.agg x0) fun b1 =>
 C.ld .slice 1 ((Addr.mk b1 0 none).add 1) fun v4 =>
 C.ret (.bool (decide ((v4.n : Int) ≤ 1024)))
theorem impl_ValidBlob_eq (C : Comb) (x0 : Array Value) : fT C Try.prog ⟨[], [], [], []⟩ n_impl_ValidBlob [(.agg x0)] = impl_ValidBlob C x0 := by kernel_rfl
theorem impl_ValidBlob_calls {R : Value → World → Prop} {w : World} (x0 : Array Value) (h : (impl_ValidBlob (real Try.prog R) x0 : World → Prop) w) :
    Calls Try.prog n_impl_ValidBlob [(.agg x0)].toArray w fun e w' => ∃ v, e = .returned v ∧ R v w' := fT_sound mixed ⟨[], [], [], []⟩ (by rw [impl_ValidBlob_eq]; exact h)

def impl_Store_keys (C : Comb) (x0 : Array Value) : C.St :=
 C.new ty_impl_Store (.agg x0) fun b1 =>
 C.sem (Instr.buildSlice ty_sl_impl_Key 0 #[]) .slice fun y6 =>
 C.ld .slice 1 ((Addr.mk b1 0 none).add 0) fun v8 =>
 C.loop (TL [.slice, (.int .i64)]) (embL [.slice, (.int .i64)]) [(.slice y6.a y6.n y6.c), (.int .i64 0)] fun s4 ct4 => C.any fun _ =>
 cond (decide (s4.2 < (v8.n : Int))) (
 C.ix v8.a v8.n 2 s4.2 fun p12 =>
 C.ld .agg 2 p12 fun v13 =>
 C.new ty_impl_Blob (.agg (#[(.int .u8 0), (.slice none 0 0)])) fun b5 =>
 C.st 2 (Addr.mk b5 0 none) (.agg v13) <|
 C.ld .agg 2 (Addr.mk b5 0 none) fun v15 =>
 C.call n_impl_Blob_key [(.agg v15)] [.agg] fun r16 =>
 C.sem (Instr.buildSlice ty_sl_impl_Key 1 #[(0, (.agg r16))]) .slice fun y17 =>
 C.sem (Builtin.append_ #[ty_sl_impl_Key, ty_sl_impl_Key] ty_sl_impl_Key #[(.slice s4.1.a s4.1.n s4.1.c), (.slice y17.a y17.n y17.c)]) .slice fun y18 =>
 ct4 [(.slice y18.a y18.n y18.c), (.int .i64 (IntKind.wrap .i64 (s4.2 + 1)))]
 ) (
 C.ret (.slice s4.1.a s4.1.n s4.1.c)
 )
theorem impl_Store_keys_eq (C : Comb) (x0 : Array Value) : fT C Try.prog ⟨[(3, [(3, .slice), (10, (.int .i64))])], [], [], []⟩ n_impl_Store_keys [(.agg x0)] = impl_Store_keys C x0 := by kernel_rfl
theorem impl_Store_keys_calls {R : Value → World → Prop} {w : World} (x0 : Array Value) (h : (impl_Store_keys (real Try.prog R) x0 : World → Prop) w) :
    Calls Try.prog n_impl_Store_keys [(.agg x0)].toArray w fun e w' => ∃ v, e = .returned v ∧ R v w' := fT_sound mixed ⟨[(3, [(3, .slice), (10, (.int .i64))])], [], [], []⟩ (by rw [impl_Store_keys_eq]; exact h)

def impl_sorted (C : Comb) (x0 : Sl) : C.St :=
 C.call n_slices_Clone_sl_impl_Key_impl_Key [(.slice x0.a x0.n x0.c)] [.slice] fun r5 =>
 C.call n_slices_SortFunc_sl_impl_Key_impl_Key [(.slice r5.a r5.n r5.c), (.func (.func n_impl_compareKeys) #[] #[])] [] fun r7 =>
 C.call n_slices_Compact_sl_impl_Key_impl_Key [(.slice r5.a r5.n r5.c)] [.slice] fun r9 =>
 C.ret (.slice r9.a r9.n r9.c)
theorem impl_sorted_eq (C : Comb) (x0 : Sl) : fT C Try.prog ⟨[], [], [], []⟩ n_impl_sorted [(.slice x0.a x0.n x0.c)] = impl_sorted C x0 := by kernel_rfl
theorem impl_sorted_calls {R : Value → World → Prop} {w : World} (x0 : Sl) (h : (impl_sorted (real Try.prog R) x0 : World → Prop) w) :
    Calls Try.prog n_impl_sorted [(.slice x0.a x0.n x0.c)].toArray w fun e w' => ∃ v, e = .returned v ∧ R v w' := fT_sound mixed ⟨[], [], [], []⟩ (by rw [impl_sorted_eq]; exact h)

def slices_IsSortedFunc_sl_impl_Key_impl_Key (C : Comb) (x0 : Sl) (x1 : Value) : C.St :=
 C.loop (TL [(.int .i64)]) (embL [(.int .i64)]) [(.int .i64 (IntKind.wrap .i64 ((x0.n : Int) - 1)))] fun s1 ct1 => C.any fun _ =>
 cond (decide (s1 > 0)) (
 C.draw <|
 C.ix x0.a x0.n 32 s1 fun p16 =>
 C.ld .agg 32 p16 fun v17 =>
 C.ix x0.a x0.n 32 (IntKind.wrap .i64 (s1 - 1)) fun p21 =>
 C.ld .agg 32 p21 fun v22 =>
 C.callV x1 [(.agg v17), (.agg v22)] [(.int .i64)] fun r23 =>
 cond (decide (r23 < 0)) (
 C.ret (.bool false)
 ) (
 ct1 [(.int .i64 (IntKind.wrap .i64 (s1 - 1)))]
 )
 ) (
 C.ret (.bool true)
 )
theorem slices_IsSortedFunc_sl_impl_Key_impl_Key_eq (C : Comb) (x0 : Sl) (x1 : Value) : fT C Try.prog ⟨[(2, [(5, (.int .i64))])], [], [4], []⟩ n_slices_IsSortedFunc_sl_impl_Key_impl_Key [(.slice x0.a x0.n x0.c), x1] = slices_IsSortedFunc_sl_impl_Key_impl_Key C x0 x1 := by kernel_rfl
theorem slices_IsSortedFunc_sl_impl_Key_impl_Key_calls {R : Value → World → Prop} {w : World} (x0 : Sl) (x1 : Value) (h : (slices_IsSortedFunc_sl_impl_Key_impl_Key (real Try.prog R) x0 x1 : World → Prop) w) :
    Calls Try.prog n_slices_IsSortedFunc_sl_impl_Key_impl_Key [(.slice x0.a x0.n x0.c), x1].toArray w fun e w' => ∃ v, e = .returned v ∧ R v w' := fT_sound mixed ⟨[(2, [(5, (.int .i64))])], [], [4], []⟩ (by rw [slices_IsSortedFunc_sl_impl_Key_impl_Key_eq]; exact h)

def impl_compareKeys (C : Comb) (x0 : Array Value) (x1 : Array Value) : C.St :=
 C.new ty_impl_Key (.agg x0) fun b2 =>
 C.new ty_impl_Key (.agg x1) fun b3 =>
 C.draw <|
 C.sl (some (Addr.mk b2 0 none)) 32 32 1 none none none fun y5 =>
 C.sl (some (Addr.mk b3 0 none)) 32 32 1 none none none fun y6 =>
 C.callQ n_slices_Compare_sl_byte_byte [(.slice y5.a y5.n y5.c), (.slice y6.a y6.n y6.c)] [(.int .i64)] fun r7 =>
 C.ret (.int .i64 r7)
theorem impl_compareKeys_eq (C : Comb) (x0 : Array Value) (x1 : Array Value) : fT C Try.prog ⟨[], [], [], []⟩ n_impl_compareKeys [(.agg x0), (.agg x1)] = impl_compareKeys C x0 x1 := by kernel_rfl
theorem impl_compareKeys_calls {R : Value → World → Prop} {w : World} (x0 : Array Value) (x1 : Array Value) (h : (impl_compareKeys (real Try.prog R) x0 x1 : World → Prop) w) :
    Calls Try.prog n_impl_compareKeys [(.agg x0), (.agg x1)].toArray w fun e w' => ∃ v, e = .returned v ∧ R v w' := fT_sound mixed ⟨[], [], [], []⟩ (by rw [impl_compareKeys_eq]; exact h)

def impl_DeltaOf (C : Comb) (x0 : Sl) (x1 : Sl) : C.St :=
 C.join (TL []) (embL []) (fun s1 => C.any fun _ =>
 C.call n_impl_delta [(.slice x0.a x0.n x0.c), (.slice x1.a x1.n x1.c)] [.slice] fun r17 =>
 cond (decide ((r17.n : Int) > 1024)) (
 C.ret (.tuple #[(.slice none 0 0), (.int .i64 3)])
 ) (
 C.ret (.tuple #[(.slice r17.a r17.n r17.c), (.int .i64 0)])
 )
 ) fun jt =>
 cond (decide ((x0.n : Int) > 1024)) (
 C.ret (.tuple #[(.slice none 0 0), (.int .i64 3)])
 ) (
 cond (decide ((x1.n : Int) > 1024)) (
 C.ret (.tuple #[(.slice none 0 0), (.int .i64 3)])
 ) (
 jt []
 )
 )
theorem impl_DeltaOf_eq (C : Comb) (x0 : Sl) (x1 : Sl) : fT C Try.prog ⟨[], [(42, [])], [], []⟩ n_impl_DeltaOf [(.slice x0.a x0.n x0.c), (.slice x1.a x1.n x1.c)] = impl_DeltaOf C x0 x1 := by kernel_rfl
theorem impl_DeltaOf_calls {R : Value → World → Prop} {w : World} (x0 : Sl) (x1 : Sl) (h : (impl_DeltaOf (real Try.prog R) x0 x1 : World → Prop) w) :
    Calls Try.prog n_impl_DeltaOf [(.slice x0.a x0.n x0.c), (.slice x1.a x1.n x1.c)].toArray w fun e w' => ∃ v, e = .returned v ∧ R v w' := fT_sound mixed ⟨[], [(42, [])], [], []⟩ (by rw [impl_DeltaOf_eq]; exact h)

def impl_Blob_key (C : Comb) (x0 : Array Value) : C.St :=
 C.new ty_impl_Blob (.agg x0) fun b1 =>
 C.new ty_impl_Key (.agg (Array.replicate 32 (.int .u8 0))) fun b2 =>
 C.ld (.int .u8) 1 ((Addr.mk b1 0 none).add 0) fun v4 =>
 C.ld .slice 1 ((Addr.mk b1 0 none).add 1) fun v6 =>
 C.call n_impl_hash [(.int .u8 v4), (.slice v6.a v6.n v6.c)] [.agg] fun r7 =>
 C.st 32 (Addr.mk b2 0 none) (.agg r7) <|
 C.ld .agg 32 (Addr.mk b2 0 none) fun z6 =>
 C.ret (.agg z6)
theorem impl_Blob_key_eq (C : Comb) (x0 : Array Value) : fT C Try.prog ⟨[], [], [], []⟩ n_impl_Blob_key [(.agg x0)] = impl_Blob_key C x0 := by kernel_rfl
theorem impl_Blob_key_calls {R : Value → World → Prop} {w : World} (x0 : Array Value) (h : (impl_Blob_key (real Try.prog R) x0 : World → Prop) w) :
    Calls Try.prog n_impl_Blob_key [(.agg x0)].toArray w fun e w' => ∃ v, e = .returned v ∧ R v w' := fT_sound mixed ⟨[], [], [], []⟩ (by rw [impl_Blob_key_eq]; exact h)

def impl_appendLittle (C : Comb) (x0 : Sl) (x1 : Int) (x2 : Int) : C.St :=
 C.loop (TL [.slice, (.int .i64)]) (embL [.slice, (.int .i64)]) [(.slice x0.a x0.n x0.c), (.int .i64 0)] fun s1 ct1 => C.any fun _ =>
 cond (decide (s1.2 < x2)) (
 C.pur (eqB .shr ty_uint64 (.tmp 13) (.tmp 15) (.int .u64 x1) (.int .i64 (IntKind.wrap .i64 (8 * s1.2)))) (.int .u64) fun y16 =>
 C.sem (Instr.buildSlice ty_sl_uint8 1 #[(0, (.int .u8 (IntKind.wrap .u8 (y16))))]) .slice fun y18 =>
 C.sem (Builtin.append_ #[ty_sl_uint8, ty_sl_uint8] ty_sl_uint8 #[(.slice s1.1.a s1.1.n s1.1.c), (.slice y18.a y18.n y18.c)]) .slice fun y19 =>
 ct1 [(.slice y19.a y19.n y19.c), (.int .i64 (IntKind.wrap .i64 (s1.2 + 1)))]
 ) (
 C.ret (.slice s1.1.a s1.1.n s1.1.c)
 )
theorem impl_appendLittle_eq (C : Comb) (x0 : Sl) (x1 : Int) (x2 : Int) : fT C Try.prog ⟨[(2, [(0, .slice), (9, (.int .i64))])], [], [], []⟩ n_impl_appendLittle [(.slice x0.a x0.n x0.c), (.int .u64 x1), (.int .i64 x2)] = impl_appendLittle C x0 x1 x2 := by kernel_rfl
theorem impl_appendLittle_calls {R : Value → World → Prop} {w : World} (x0 : Sl) (x1 : Int) (x2 : Int) (h : (impl_appendLittle (real Try.prog R) x0 x1 x2 : World → Prop) w) :
    Calls Try.prog n_impl_appendLittle [(.slice x0.a x0.n x0.c), (.int .u64 x1), (.int .i64 x2)].toArray w fun e w' => ∃ v, e = .returned v ∧ R v w' := fT_sound mixed ⟨[(2, [(0, .slice), (9, (.int .i64))])], [], [], []⟩ (by rw [impl_appendLittle_eq]; exact h)

def impl_keyOfPack (C : Comb) (x0 : Sl) : C.St :=
 C.new ty_impl_Key (.agg (Array.replicate 32 (.int .u8 0))) fun b2 =>
 C.call n_impl_hash [(.int .u8 8), (.slice x0.a x0.n x0.c)] [.agg] fun r4 =>
 C.st 32 (Addr.mk b2 0 none) (.agg r4) <|
 C.ld .agg 32 (Addr.mk b2 0 none) fun z3 =>
 C.ret (.agg z3)
theorem impl_keyOfPack_eq (C : Comb) (x0 : Sl) : fT C Try.prog ⟨[], [], [], []⟩ n_impl_keyOfPack [(.slice x0.a x0.n x0.c)] = impl_keyOfPack C x0 := by kernel_rfl
theorem impl_keyOfPack_calls {R : Value → World → Prop} {w : World} (x0 : Sl) (h : (impl_keyOfPack (real Try.prog R) x0 : World → Prop) w) :
    Calls Try.prog n_impl_keyOfPack [(.slice x0.a x0.n x0.c)].toArray w fun e w' => ∃ v, e = .returned v ∧ R v w' := fT_sound mixed ⟨[], [], [], []⟩ (by rw [impl_keyOfPack_eq]; exact h)

def laws_eqBlob (C : Comb) (x0 : Array Value) (x1 : Array Value) : C.St :=
 C.new ty_impl_Blob (.agg x0) fun b2 =>
 C.new ty_impl_Blob (.agg x1) fun b3 =>
 C.ld (.int .u8) 1 ((Addr.mk b2 0 none).add 0) fun v6 =>
 C.ld (.int .u8) 1 ((Addr.mk b3 0 none).add 0) fun v8 =>
 cond (v6 != v8) (
 C.ret (.bool false)
 ) (
 C.ld .slice 1 ((Addr.mk b2 0 none).add 1) fun v11 =>
 C.ld .slice 1 ((Addr.mk b3 0 none).add 1) fun v13 =>
 C.call n_laws_eqByteS [(.slice v11.a v11.n v11.c), (.slice v13.a v13.n v13.c)] [.bool] fun r14 =>
 cond (!r14) (
 C.ret (.bool false)
 ) (
 C.ret (.bool true)
 )
 )
theorem laws_eqBlob_eq (C : Comb) (x0 : Array Value) (x1 : Array Value) : fT C Try.prog ⟨[], [], [], []⟩ n_laws_eqBlob [(.agg x0), (.agg x1)] = laws_eqBlob C x0 x1 := by kernel_rfl
theorem laws_eqBlob_calls {R : Value → World → Prop} {w : World} (x0 : Array Value) (x1 : Array Value) (h : (laws_eqBlob (real Try.prog R) x0 x1 : World → Prop) w) :
    Calls Try.prog n_laws_eqBlob [(.agg x0), (.agg x1)].toArray w fun e w' => ∃ v, e = .returned v ∧ R v w' := fT_sound mixed ⟨[], [], [], []⟩ (by rw [laws_eqBlob_eq]; exact h)

def laws_szByteS (C : Comb) (x0 : Sl) (x1 : Int) : C.St :=
 cond (decide ((IntKind.wrap .i64 (x1 - (x0.n : Int))) < 0)) (
 C.ret (.int .i64 (-1))
 ) (
 C.ret (.int .i64 (IntKind.wrap .i64 (x1 - (x0.n : Int))))
 )
theorem laws_szByteS_eq (C : Comb) (x0 : Sl) (x1 : Int) : fT C Try.prog ⟨[], [], [], []⟩ n_laws_szByteS [(.slice x0.a x0.n x0.c), (.int .i64 x1)] = laws_szByteS C x0 x1 := by kernel_rfl
theorem laws_szByteS_calls {R : Value → World → Prop} {w : World} (x0 : Sl) (x1 : Int) (h : (laws_szByteS (real Try.prog R) x0 x1 : World → Prop) w) :
    Calls Try.prog n_laws_szByteS [(.slice x0.a x0.n x0.c), (.int .i64 x1)].toArray w fun e w' => ∃ v, e = .returned v ∧ R v w' := fT_sound mixed ⟨[], [], [], []⟩ (by rw [laws_szByteS_eq]; exact h)

def spec_l06Match (C : Comb) (x0 : Sl) (x1 : Sl) : C.St :=
 C.loop (TL [(.int .i64)]) (embL [(.int .i64)]) [(.int .i64 0)] fun s1 ct1 => C.any fun _ =>
 C.draw <|
 cond (decide (s1 < (x0.n : Int))) (
 cond (decide (s1 < (x1.n : Int))) (
 cond (decide (s1 < 255)) (
 C.ix x0.a x0.n 1 s1 fun p23 =>
 C.ld (.int .u8) 1 p23 fun v24 =>
 C.ix x1.a x1.n 1 s1 fun p27 =>
 C.ld (.int .u8) 1 p27 fun v28 =>
 cond (v24 == v28) (
 ct1 [(.int .i64 (IntKind.wrap .i64 (s1 + 1)))]
 ) (
 C.ret (.int .i64 s1)
 )
 ) (
 C.ret (.int .i64 s1)
 )
 ) (
 C.ret (.int .i64 s1)
 )
 ) (
 C.ret (.int .i64 s1)
 )
theorem spec_l06Match_eq (C : Comb) (x0 : Sl) (x1 : Sl) : fT C Try.prog ⟨[(2, [(5, (.int .i64))])], [], [], []⟩ n_spec_l06Match [(.slice x0.a x0.n x0.c), (.slice x1.a x1.n x1.c)] = spec_l06Match C x0 x1 := by kernel_rfl
theorem spec_l06Match_calls {R : Value → World → Prop} {w : World} (x0 : Sl) (x1 : Sl) (h : (spec_l06Match (real Try.prog R) x0 x1 : World → Prop) w) :
    Calls Try.prog n_spec_l06Match [(.slice x0.a x0.n x0.c), (.slice x1.a x1.n x1.c)].toArray w fun e w' => ∃ v, e = .returned v ∧ R v w' := fT_sound mixed ⟨[(2, [(5, (.int .i64))])], [], [], []⟩ (by rw [spec_l06Match_eq]; exact h)

def spec_l06Plain (C : Comb) (x0 : Sl) (x1 : Sl) : C.St :=
 C.loop (TL [.slice, .slice]) (embL [.slice, .slice]) [(.slice x0.a x0.n x0.c), (.slice x1.a x1.n x1.c)] fun s1 ct1 => C.any fun _ =>
 cond (decide ((s1.2.n : Int) > 0)) (
 C.join (TL [(.int .i64)]) (embL [(.int .i64)]) (fun s2 => C.any fun _ =>
 C.sem (Instr.buildSlice ty_sl_uint8 2 #[(0, (.int .u8 0)), (1, (.int .u8 (IntKind.wrap .u8 (s2))))]) .slice fun y16 =>
 C.sem (Builtin.append_ #[ty_sl_uint8, ty_sl_uint8] ty_sl_uint8 #[(.slice s1.1.a s1.1.n s1.1.c), (.slice y16.a y16.n y16.c)]) .slice fun y17 =>
 C.sl s1.2.a s1.2.n s1.2.c 1 none (some s2) none fun y21 =>
 C.sem (Builtin.append_ #[ty_sl_uint8, ty_sl_uint8] ty_sl_uint8 #[(.slice y17.a y17.n y17.c), (.slice y21.a y21.n y21.c)]) .slice fun y22 =>
 C.sl s1.2.a s1.2.n s1.2.c 1 (some s2) none none fun y25 =>
 ct1 [(.slice y22.a y22.n y22.c), (.slice y25.a y25.n y25.c)]
 ) fun jt =>
 cond (decide ((s1.2.n : Int) > 255)) (
 jt [(.int .i64 255)]
 ) (
 jt [(.int .i64 (s1.2.n : Int))]
 )
 ) (
 C.ret (.slice s1.1.a s1.1.n s1.1.c)
 )
theorem spec_l06Plain_eq (C : Comb) (x0 : Sl) (x1 : Sl) : fT C Try.prog ⟨[(1, [(0, .slice), (1, .slice)])], [(36, [(5, (.int .i64))])], [], []⟩ n_spec_l06Plain [(.slice x0.a x0.n x0.c), (.slice x1.a x1.n x1.c)] = spec_l06Plain C x0 x1 := by kernel_rfl
theorem spec_l06Plain_calls {R : Value → World → Prop} {w : World} (x0 : Sl) (x1 : Sl) (h : (spec_l06Plain (real Try.prog R) x0 x1 : World → Prop) w) :
    Calls Try.prog n_spec_l06Plain [(.slice x0.a x0.n x0.c), (.slice x1.a x1.n x1.c)].toArray w fun e w' => ∃ v, e = .returned v ∧ R v w' := fT_sound mixed ⟨[(1, [(0, .slice), (1, .slice)])], [(36, [(5, (.int .i64))])], [], []⟩ (by rw [spec_l06Plain_eq]; exact h)

def spec_l01End (C : Comb) (x0 : Array Value) (x1 : Sl) (x2 : Int) : C.St :=
 C.new ty_arr8_uint32 (.agg x0) fun b3 =>
 C.new ty_impl_Key (.agg (Array.replicate 32 (.int .u8 0))) fun b6 =>
 C.call n_spec_l01Padded [(.slice x1.a x1.n x1.c), (.int .i64 x2)] [.slice] fun r13 =>
 C.loop (TL [(.int .i64)]) (embL [(.int .i64)]) [(.int .i64 0)] fun s4 ct4 => C.any fun _ =>
 cond (decide (s4 < (r13.n : Int))) (
 C.draw <|
 C.ld .agg 8 (Addr.mk b3 0 none) fun v20 =>
 C.call n_spec_l01Block [(.slice r13.a r13.n r13.c), (.int .i64 s4)] [.agg] fun r23 =>
 C.chk [⟨0, 8, (Addr.mk b3 0 none), .agg, v20⟩] <|
 C.call n_spec_l01Mix [(.agg v20), (.agg r23)] [.agg] fun r24 =>
 C.st 8 (Addr.mk b3 0 none) (.agg r24) <|
 ct4 [(.int .i64 (IntKind.wrap .i64 (s4 + 32)))]
 ) (
 C.new ty_impl_Key (.agg (Array.replicate 32 (.int .u8 0))) fun b9 =>
 C.st 32 (Addr.mk b9 0 none) (.agg (Array.replicate 32 (.int .u8 0))) <|
 C.loop (TL [(.int .i64)]) (embL [(.int .i64)]) [(.int .i64 0)] fun s9 ct9 => C.any fun _ =>
 cond (decide (s9 < 32)) (
 C.ix (some (Addr.mk b3 0 none)) 8 1 (IntKind.wrap .i64 (Int.tdiv s9 4)) fun p33 =>
 C.ld (.int .u32) 1 p33 fun v34 =>
 C.pur (eqB .shr ty_uint32 (.tmp 34) (.tmp 38) (.int .u32 v34) (.int .u64 (IntKind.wrap .u64 ((IntKind.wrap .i64 (8 * (Int.tmod s9 4))))))) (.int .u32) fun y39 =>
 C.ix (some (Addr.mk b9 0 none)) 32 1 s9 fun p41 =>
 C.st 1 p41 (.int .u8 (IntKind.wrap .u8 (y39))) <|
 ct9 [(.int .i64 (IntKind.wrap .i64 (s9 + 1)))]
 ) (
 C.ld .agg 32 (Addr.mk b9 0 none) fun v42 =>
 C.st 32 (Addr.mk b6 0 none) (.agg v42) <|
 C.ld .agg 32 (Addr.mk b6 0 none) fun z15 =>
 C.ret (.agg z15)
 )
 )
theorem spec_l01End_eq (C : Comb) (x0 : Array Value) (x1 : Sl) (x2 : Int) : fT C Try.prog ⟨[(3, [(8, (.int .i64))]), (8, [(10, (.int .i64))])], [], [5], []⟩ n_spec_l01End [(.agg x0), (.slice x1.a x1.n x1.c), (.int .i64 x2)] = spec_l01End C x0 x1 x2 := by kernel_rfl
theorem spec_l01End_calls {R : Value → World → Prop} {w : World} (x0 : Array Value) (x1 : Sl) (x2 : Int) (h : (spec_l01End (real Try.prog R) x0 x1 x2 : World → Prop) w) :
    Calls Try.prog n_spec_l01End [(.agg x0), (.slice x1.a x1.n x1.c), (.int .i64 x2)].toArray w fun e w' => ∃ v, e = .returned v ∧ R v w' := fT_sound mixed ⟨[(3, [(8, (.int .i64))]), (8, [(10, (.int .i64))])], [], [5], []⟩ (by rw [spec_l01End_eq]; exact h)

def spec_l01Start (C : Comb) (x0 : Int) : C.St :=
 C.new ty_arr8_uint32 (.agg (Array.replicate 8 (.int .u32 0))) fun b2 =>
 C.new ty_arr8_uint32 (.agg (Array.replicate 8 (.int .u32 0))) fun b3 =>
 C.st 8 (Addr.mk b3 0 none) (.agg (Array.replicate 8 (.int .u32 0))) <|
 C.loop (TL [(.int .i64)]) (embL [(.int .i64)]) [(.int .i64 0)] fun s3 ct3 => C.any fun _ =>
 cond (decide (s3 < 8)) (
 C.ix (some (Addr.mk b3 0 none)) 8 1 s3 fun p18 =>
 C.st 1 p18 (.int .u32 (IntKind.wrap .u32 ((IntKind.wrap .u32 (16777619 * (IntKind.wrap .u32 ((IntKind.wrap .i64 (s3 + 1)))))) + (IntKind.wrap .u32 (x0))))) <|
 ct3 [(.int .i64 (IntKind.wrap .i64 (s3 + 1)))]
 ) (
 C.ld .agg 8 (Addr.mk b3 0 none) fun v19 =>
 C.st 8 (Addr.mk b2 0 none) (.agg v19) <|
 C.ld .agg 8 (Addr.mk b2 0 none) fun z6 =>
 C.ret (.agg z6)
 )
theorem spec_l01Start_eq (C : Comb) (x0 : Int) : fT C Try.prog ⟨[(3, [(4, (.int .i64))])], [], [], []⟩ n_spec_l01Start [(.int .u8 x0)] = spec_l01Start C x0 := by kernel_rfl
theorem spec_l01Start_calls {R : Value → World → Prop} {w : World} (x0 : Int) (h : (spec_l01Start (real Try.prog R) x0 : World → Prop) w) :
    Calls Try.prog n_spec_l01Start [(.int .u8 x0)].toArray w fun e w' => ∃ v, e = .returned v ∧ R v w' := fT_sound mixed ⟨[(3, [(4, (.int .i64))])], [], [], []⟩ (by rw [spec_l01Start_eq]; exact h)

def laws_toByteS (C : Comb) (x0 : Sl) : C.St :=
 C.sem (Instr.makeSlice ty_sl_uint8 (.int .i64 (x0.n : Int)) (.int .i64 (x0.n : Int))) .slice fun y7 =>
 C.loop (TL [(.int .i64)]) (embL [(.int .i64)]) [(.int .i64 0)] fun s2 ct2 => C.any fun _ =>
 cond (decide (s2 < (x0.n : Int))) (
 C.ix x0.a x0.n 1 s2 fun p18 =>
 C.ld (.int .u8) 1 p18 fun v19 =>
 C.ix y7.a y7.n 1 s2 fun p20 =>
 C.st 1 p20 (.int .u8 v19) <|
 ct2 [(.int .i64 (IntKind.wrap .i64 (s2 + 1)))]
 ) (
 C.ret (.slice y7.a y7.n y7.c)
 )
theorem laws_toByteS_eq (C : Comb) (x0 : Sl) : fT C Try.prog ⟨[(3, [(4, (.int .i64))])], [], [], []⟩ n_laws_toByteS [(.slice x0.a x0.n x0.c)] = laws_toByteS C x0 := by kernel_rfl
theorem laws_toByteS_calls {R : Value → World → Prop} {w : World} (x0 : Sl) (h : (laws_toByteS (real Try.prog R) x0 : World → Prop) w) :
    Calls Try.prog n_laws_toByteS [(.slice x0.a x0.n x0.c)].toArray w fun e w' => ∃ v, e = .returned v ∧ R v w' := fT_sound mixed ⟨[(3, [(4, (.int .i64))])], [], [], []⟩ (by rw [laws_toByteS_eq]; exact h)

def slices_IndexFunc_sl_impl_Blob_impl_Blob (C : Comb) (x0 : Sl) (x1 : Value) : C.St :=
 C.loop (TL [(.int .i64)]) (embL [(.int .i64)]) [(.int .i64 0)] fun s1 ct1 => C.any fun _ =>
 cond (decide (s1 < (x0.n : Int))) (
 C.ix x0.a x0.n 2 s1 fun p14 =>
 C.ld .agg 2 p14 fun v15 =>
 C.callV x1 [(.agg v15)] [.bool] fun r16 =>
 cond r16 (
 C.ret (.int .i64 s1)
 ) (
 ct1 [(.int .i64 (IntKind.wrap .i64 (s1 + 1)))]
 )
 ) (
 C.ret (.int .i64 (-1))
 )
theorem slices_IndexFunc_sl_impl_Blob_impl_Blob_eq (C : Comb) (x0 : Sl) (x1 : Value) : fT C Try.prog ⟨[(2, [(8, (.int .i64))])], [], [], []⟩ n_slices_IndexFunc_sl_impl_Blob_impl_Blob [(.slice x0.a x0.n x0.c), x1] = slices_IndexFunc_sl_impl_Blob_impl_Blob C x0 x1 := by kernel_rfl
theorem slices_IndexFunc_sl_impl_Blob_impl_Blob_calls {R : Value → World → Prop} {w : World} (x0 : Sl) (x1 : Value) (h : (slices_IndexFunc_sl_impl_Blob_impl_Blob (real Try.prog R) x0 x1 : World → Prop) w) :
    Calls Try.prog n_slices_IndexFunc_sl_impl_Blob_impl_Blob [(.slice x0.a x0.n x0.c), x1].toArray w fun e w' => ∃ v, e = .returned v ∧ R v w' := fT_sound mixed ⟨[(2, [(8, (.int .i64))])], [], [], []⟩ (by rw [slices_IndexFunc_sl_impl_Blob_impl_Blob_eq]; exact h)

def slices_Clone_sl_impl_Key_impl_Key (C : Comb) (x0 : Sl) : C.St :=
 C.pur (eqB .eql ty_sl_impl_Key (.tmp 3) (.const (.slice none 0 0)) (.slice x0.a x0.n x0.c) (.slice none 0 0)) .bool fun y4 =>
 cond y4 (
 C.ret (.slice none 0 0)
 ) (
 C.sem (Instr.buildSlice ty_sl_impl_Key 0 #[]) .slice fun y5 =>
 C.sem (Builtin.append_ #[ty_sl_impl_Key, ty_sl_impl_Key] ty_sl_impl_Key #[(.slice y5.a y5.n y5.c), (.slice x0.a x0.n x0.c)]) .slice fun y7 =>
 C.ret (.slice y7.a y7.n y7.c)
 )
theorem slices_Clone_sl_impl_Key_impl_Key_eq (C : Comb) (x0 : Sl) : fT C Try.prog ⟨[], [], [], []⟩ n_slices_Clone_sl_impl_Key_impl_Key [(.slice x0.a x0.n x0.c)] = slices_Clone_sl_impl_Key_impl_Key C x0 := by kernel_rfl
theorem slices_Clone_sl_impl_Key_impl_Key_calls {R : Value → World → Prop} {w : World} (x0 : Sl) (h : (slices_Clone_sl_impl_Key_impl_Key (real Try.prog R) x0 : World → Prop) w) :
    Calls Try.prog n_slices_Clone_sl_impl_Key_impl_Key [(.slice x0.a x0.n x0.c)].toArray w fun e w' => ∃ v, e = .returned v ∧ R v w' := fT_sound mixed ⟨[], [], [], []⟩ (by rw [slices_Clone_sl_impl_Key_impl_Key_eq]; exact h)

def slices_Compact_sl_impl_Key_impl_Key (C : Comb) (x0 : Sl) : C.St :=
 cond (decide ((x0.n : Int) < 2)) (
 C.ret (.slice x0.a x0.n x0.c)
 ) (
 C.loop (TL [(.int .i64)]) (embL [(.int .i64)]) [(.int .i64 1)] fun s1 ct1 => C.any fun _ =>
 cond (decide (s1 < (x0.n : Int))) (
 C.draw <|
 C.ix x0.a x0.n 32 s1 fun p18 =>
 C.ld .agg 32 p18 fun v19 =>
 C.ix x0.a x0.n 32 (IntKind.wrap .i64 (s1 - 1)) fun p23 =>
 C.ld .agg 32 p23 fun v24 =>
 C.pur (eqB .eql ty_impl_Key (.tmp 19) (.tmp 24) (.agg v19) (.agg v24)) .bool fun y25 =>
 cond y25 (
 C.sl x0.a x0.n x0.c 32 (some s1) none none fun y28 =>
 C.loop (TL [(.int .i64), (.int .i64)]) (embL [(.int .i64), (.int .i64)]) [(.int .i64 s1), (.int .i64 1)] fun s8 ct8 => C.any fun _ =>
 cond (decide (s8.2 < (y28.n : Int))) (
 C.draw <|
 C.ix y28.a y28.n 32 s8.2 fun p37 =>
 C.ld .agg 32 p37 fun v38 =>
 C.ix y28.a y28.n 32 (IntKind.wrap .i64 (s8.2 - 1)) fun p42 =>
 C.ld .agg 32 p42 fun v43 =>
 C.pur (eqB .neq ty_impl_Key (.tmp 38) (.tmp 43) (.agg v38) (.agg v43)) .bool fun y44 =>
 cond y44 (
 C.ix y28.a y28.n 32 s8.2 fun p49 =>
 C.ld .agg 32 p49 fun v50 =>
 C.ix x0.a x0.n 32 s8.1 fun p51 =>
 C.st 32 p51 (.agg v50) <|
 ct8 [(.int .i64 (IntKind.wrap .i64 (s8.1 + 1))), (.int .i64 (IntKind.wrap .i64 (s8.2 + 1)))]
 ) (
 ct8 [(.int .i64 s8.1), (.int .i64 (IntKind.wrap .i64 (s8.2 + 1)))]
 )
 ) (
 C.sl x0.a x0.n x0.c 32 (some s8.1) none none fun y56 =>
 C.sem (Builtin.clear_ #[ty_sl_impl_Key] ty_x #[(.slice y56.a y56.n y56.c)]) .val fun yq18 =>
 C.sl x0.a x0.n x0.c 32 none (some s8.1) none fun y59 =>
 C.ret (.slice y59.a y59.n y59.c)
 )
 ) (
 ct1 [(.int .i64 (IntKind.wrap .i64 (s1 + 1)))]
 )
 ) (
 C.ret (.slice x0.a x0.n x0.c)
 )
 )
theorem slices_Compact_sl_impl_Key_impl_Key_eq (C : Comb) (x0 : Sl) : fT C Try.prog ⟨[(4, [(3, (.int .i64))]), (9, [(3, (.int .i64)), (5, (.int .i64))])], [], [], []⟩ n_slices_Compact_sl_impl_Key_impl_Key [(.slice x0.a x0.n x0.c)] = slices_Compact_sl_impl_Key_impl_Key C x0 := by kernel_rfl
theorem slices_Compact_sl_impl_Key_impl_Key_calls {R : Value → World → Prop} {w : World} (x0 : Sl) (h : (slices_Compact_sl_impl_Key_impl_Key (real Try.prog R) x0 : World → Prop) w) :
    Calls Try.prog n_slices_Compact_sl_impl_Key_impl_Key [(.slice x0.a x0.n x0.c)].toArray w fun e w' => ∃ v, e = .returned v ∧ R v w' := fT_sound mixed ⟨[(4, [(3, (.int .i64))]), (9, [(3, (.int .i64)), (5, (.int .i64))])], [], [], []⟩ (by rw [slices_Compact_sl_impl_Key_impl_Key_eq]; exact h)

def slices_Compare_sl_byte_byte (C : Comb) (x0 : Sl) (x1 : Sl) : C.St :=
 C.loop (TL [(.int .i64)]) (embL [(.int .i64)]) [(.int .i64 0)] fun s1 ct1 => C.any fun _ =>
 cond (decide (s1 < (x0.n : Int))) (
 C.ix x0.a x0.n 1 s1 fun p14 =>
 C.ld (.int .u8) 1 p14 fun v15 =>
 cond (decide (s1 ≥ (x1.n : Int))) (
 C.ret (.int .i64 1)
 ) (
 C.ix x1.a x1.n 1 s1 fun p22 =>
 C.ld (.int .u8) 1 p22 fun v23 =>
 C.call n_cmp_Compare_byte [(.int .u8 v15), (.int .u8 v23)] [(.int .i64)] fun r26 =>
 cond (r26 != 0) (
 C.ret (.int .i64 r26)
 ) (
 ct1 [(.int .i64 (IntKind.wrap .i64 (s1 + 1)))]
 )
 )
 ) (
 cond (decide ((x0.n : Int) < (x1.n : Int))) (
 C.ret (.int .i64 (-1))
 ) (
 C.ret (.int .i64 0)
 )
 )
theorem slices_Compare_sl_byte_byte_eq (C : Comb) (x0 : Sl) (x1 : Sl) : fT C Try.prog ⟨[(2, [(11, (.int .i64))])], [], [], []⟩ n_slices_Compare_sl_byte_byte [(.slice x0.a x0.n x0.c), (.slice x1.a x1.n x1.c)] = slices_Compare_sl_byte_byte C x0 x1 := by kernel_rfl
theorem slices_Compare_sl_byte_byte_calls {R : Value → World → Prop} {w : World} (x0 : Sl) (x1 : Sl) (h : (slices_Compare_sl_byte_byte (real Try.prog R) x0 x1 : World → Prop) w) :
    Calls Try.prog n_slices_Compare_sl_byte_byte [(.slice x0.a x0.n x0.c), (.slice x1.a x1.n x1.c)].toArray w fun e w' => ∃ v, e = .returned v ∧ R v w' := fT_sound mixed ⟨[(2, [(11, (.int .i64))])], [], [], []⟩ (by rw [slices_Compare_sl_byte_byte_eq]; exact h)

def impl_delta (C : Comb) (x0 : Sl) (x1 : Sl) : C.St :=
 C.sem (Instr.buildSlice ty_sl_uint8 0 #[]) .slice fun y13 =>
 C.sem (Instr.buildSlice ty_sl_uint8 0 #[]) .slice fun y14 =>
 C.new ty_sl_uint8 (.slice none 0 0) fun b5 =>
 C.new ty_sl_uint8 (.slice none 0 0) fun b6 =>
 C.st 1 (Addr.mk b5 0 none) (.slice y13.a y13.n y13.c) <|
 C.st 1 (Addr.mk b6 0 none) (.slice y14.a y14.n y14.c) <|
 C.loop (TL [(.int .i64)]) (embL [(.int .i64)]) [(.int .i64 0)] fun s5 ct5 => C.any fun _ =>
 cond (decide (s5 < (x1.n : Int))) (
 C.loop (TL [(.int .i64), (.int .i64), (.int .i64)]) (embL [(.int .i64), (.int .i64), (.int .i64)]) [(.int .i64 0), (.int .i64 0), (.int .i64 0)] fun s6 ct6 => C.any fun _ =>
 cond (decide (s6.2.2 < (x0.n : Int))) (
 C.join (TL [(.int .i64)]) (embL [(.int .i64)]) (fun s12 => C.any fun _ =>
 cond (decide (s12 > s6.2.1)) (
 ct6 [(.int .i64 s6.2.2), (.int .i64 s12), (.int .i64 (IntKind.wrap .i64 (s6.2.2 + 1)))]
 ) (
 ct6 [(.int .i64 s6.1), (.int .i64 s6.2.1), (.int .i64 (IntKind.wrap .i64 (s6.2.2 + 1)))]
 )
 ) fun jt =>
 C.loop (TL [(.int .i64)]) (embL [(.int .i64)]) [(.int .i64 0)] fun s7 ct7 => C.any fun _ =>
 C.draw <|
 cond (decide (s7 < 255)) (
 cond (decide ((IntKind.wrap .i64 (s6.2.2 + s7)) < (x0.n : Int))) (
 cond (decide ((IntKind.wrap .i64 (s5 + s7)) < (x1.n : Int))) (
 C.ix x0.a x0.n 1 (IntKind.wrap .i64 (s6.2.2 + s7)) fun p48 =>
 C.ld (.int .u8) 1 p48 fun v49 =>
 C.ix x1.a x1.n 1 (IntKind.wrap .i64 (s5 + s7)) fun p54 =>
 C.ld (.int .u8) 1 p54 fun v55 =>
 cond (v49 == v55) (
 ct7 [(.int .i64 (IntKind.wrap .i64 (s7 + 1)))]
 ) (
 jt [(.int .i64 s7)]
 )
 ) (
 jt [(.int .i64 s7)]
 )
 ) (
 jt [(.int .i64 s7)]
 )
 ) (
 jt [(.int .i64 s7)]
 )
 ) (
 cond (decide (s6.2.1 < 8)) (
 C.draw <|
 C.ld .slice 1 (Addr.mk b6 0 none) fun v68 =>
 C.ix x1.a x1.n 1 s5 fun p71 =>
 C.ld (.int .u8) 1 p71 fun v72 =>
 C.sem (Instr.buildSlice ty_sl_uint8 1 #[(0, (.int .u8 v72))]) .slice fun y73 =>
 C.chk [⟨0, 1, (Addr.mk b6 0 none), .slice, v68⟩] <|
 C.sem (Builtin.append_ #[ty_sl_uint8, ty_sl_uint8] ty_sl_uint8 #[(.slice v68.a v68.n v68.c), (.slice y73.a y73.n y73.c)]) .slice fun y74 =>
 C.st 1 (Addr.mk b6 0 none) (.slice y74.a y74.n y74.c) <|
 ct5 [(.int .i64 (IntKind.wrap .i64 (s5 + 1)))]
 ) (
 C.callV (.func (.func n_impl_delta_1) #[] #[(.pointer (some (Addr.mk b6 0 none))), (.pointer (some (Addr.mk b5 0 none)))]) [] [] fun r78 =>
 C.ld .slice 1 (Addr.mk b5 0 none) fun v79 =>
 C.sem (Instr.buildSlice ty_sl_uint8 1 #[(0, (.int .u8 1))]) .slice fun y80 =>
 C.sem (Builtin.append_ #[ty_sl_uint8, ty_sl_uint8] ty_sl_uint8 #[(.slice v79.a v79.n v79.c), (.slice y80.a y80.n y80.c)]) .slice fun y81 =>
 C.call n_impl_appendLittle [(.slice y81.a y81.n y81.c), (.int .u64 (IntKind.wrap .u64 ((IntKind.wrap .u16 (s6.1))))), (.int .i64 2)] [.slice] fun r85 =>
 C.sem (Instr.buildSlice ty_sl_uint8 1 #[(0, (.int .u8 (IntKind.wrap .u8 (s6.2.1))))]) .slice fun y88 =>
 C.sem (Builtin.append_ #[ty_sl_uint8, ty_sl_uint8] ty_sl_uint8 #[(.slice r85.a r85.n r85.c), (.slice y88.a y88.n y88.c)]) .slice fun y89 =>
 C.st 1 (Addr.mk b5 0 none) (.slice y89.a y89.n y89.c) <|
 ct5 [(.int .i64 (IntKind.wrap .i64 (s5 + s6.2.1)))]
 )
 )
 ) (
 C.callV (.func (.func n_impl_delta_1) #[] #[(.pointer (some (Addr.mk b6 0 none))), (.pointer (some (Addr.mk b5 0 none)))]) [] [] fun r94 =>
 C.ld .slice 1 (Addr.mk b5 0 none) fun v95 =>
 C.ret (.slice v95.a v95.n v95.c)
 )
theorem impl_delta_eq (C : Comb) (x0 : Sl) (x1 : Sl) : fT C Try.prog ⟨[(4, [(8, (.int .i64))]), (7, [(9, (.int .i64)), (10, (.int .i64)), (22, (.int .i64))]), (10, [(12, (.int .i64))])], [(32, [(12, (.int .i64))])], [16], []⟩ n_impl_delta [(.slice x0.a x0.n x0.c), (.slice x1.a x1.n x1.c)] = impl_delta C x0 x1 := by kernel_rfl
theorem impl_delta_calls {R : Value → World → Prop} {w : World} (x0 : Sl) (x1 : Sl) (h : (impl_delta (real Try.prog R) x0 x1 : World → Prop) w) :
    Calls Try.prog n_impl_delta [(.slice x0.a x0.n x0.c), (.slice x1.a x1.n x1.c)].toArray w fun e w' => ∃ v, e = .returned v ∧ R v w' := fT_sound mixed ⟨[(4, [(8, (.int .i64))]), (7, [(9, (.int .i64)), (10, (.int .i64)), (22, (.int .i64))]), (10, [(12, (.int .i64))])], [(32, [(12, (.int .i64))])], [16], []⟩ (by rw [impl_delta_eq]; exact h)

def impl_hash (C : Comb) (x0 : Int) (x1 : Sl) : C.St :=
 C.new ty_impl_Key (.agg (Array.replicate 32 (.int .u8 0))) fun b4 =>
 C.call n_impl_size_byte [(.slice x1.a x1.n x1.c)] [(.int .i64)] fun r10 =>
 C.call n_impl_padding [(.int .i64 r10)] [.slice] fun r11 =>
 C.sem (Instr.buildSlice ty_sl_sl_uint8 2 #[(0, (.slice x1.a x1.n x1.c)), (1, (.slice r11.a r11.n r11.c))]) .slice fun y12 =>
 C.call n_slices_Concat_sl_byte_byte [(.slice y12.a y12.n y12.c)] [.slice] fun r13 =>
 C.call n_impl_blocks [(.slice r13.a r13.n r13.c)] [.slice, .slice] fun r14 =>
 C.call n_impl_StartState [(.int .u8 x0)] [.agg] fun r18 =>
 C.call n_impl_mixed [(.agg r18), (.slice r14.1.a r14.1.n r14.1.c)] [.agg] fun r20 =>
 C.call n_impl_keyOf [(.agg r20)] [.agg] fun r21 =>
 C.st 32 (Addr.mk b4 0 none) (.agg r21) <|
 C.ld .agg 32 (Addr.mk b4 0 none) fun z10 =>
 C.ret (.agg z10)
theorem impl_hash_eq (C : Comb) (x0 : Int) (x1 : Sl) : fT C Try.prog ⟨[], [], [], []⟩ n_impl_hash [(.int .u8 x0), (.slice x1.a x1.n x1.c)] = impl_hash C x0 x1 := by kernel_rfl
theorem impl_hash_calls {R : Value → World → Prop} {w : World} (x0 : Int) (x1 : Sl) (h : (impl_hash (real Try.prog R) x0 x1 : World → Prop) w) :
    Calls Try.prog n_impl_hash [(.int .u8 x0), (.slice x1.a x1.n x1.c)].toArray w fun e w' => ∃ v, e = .returned v ∧ R v w' := fT_sound mixed ⟨[], [], [], []⟩ (by rw [impl_hash_eq]; exact h)

def spec_l01Padded (C : Comb) (x0 : Sl) (x1 : Int) : C.St :=
 C.sem (Instr.buildSlice ty_sl_uint8 0 #[]) .slice fun y7 =>
 C.sem (Builtin.append_ #[ty_sl_uint8, ty_sl_uint8] ty_sl_uint8 #[(.slice y7.a y7.n y7.c), (.slice x0.a x0.n x0.c)]) .slice fun y9 =>
 C.sem (Instr.buildSlice ty_sl_uint8 1 #[(0, (.int .u8 128))]) .slice fun y10 =>
 C.sem (Builtin.append_ #[ty_sl_uint8, ty_sl_uint8] ty_sl_uint8 #[(.slice y9.a y9.n y9.c), (.slice y10.a y10.n y10.c)]) .slice fun y11 =>
 C.loop (TL [.slice]) (embL [.slice]) [(.slice y11.a y11.n y11.c)] fun s5 ct5 => C.any fun _ =>
 cond ((Int.tmod (s5.n : Int) 32) != 24) (
 C.sem (Instr.buildSlice ty_sl_uint8 1 #[(0, (.int .u8 0))]) .slice fun y17 =>
 C.sem (Builtin.append_ #[ty_sl_uint8, ty_sl_uint8] ty_sl_uint8 #[(.slice s5.a s5.n s5.c), (.slice y17.a y17.n y17.c)]) .slice fun y18 =>
 ct5 [(.slice y18.a y18.n y18.c)]
 ) (
 C.loop (TL [(.int .i64), .slice, (.int .i64)]) (embL [(.int .i64), .slice, (.int .i64)]) [(.int .i64 x1), (.slice s5.a s5.n s5.c), (.int .i64 0)] fun s8 ct8 => C.any fun _ =>
 cond (decide (s8.2.2 < 8)) (
 C.sem (Instr.buildSlice ty_sl_uint8 1 #[(0, (.int .u8 (IntKind.wrap .u8 ((Int.tmod s8.1 256)))))]) .slice fun y27 =>
 C.sem (Builtin.append_ #[ty_sl_uint8, ty_sl_uint8] ty_sl_uint8 #[(.slice s8.2.1.a s8.2.1.n s8.2.1.c), (.slice y27.a y27.n y27.c)]) .slice fun y28 =>
 ct8 [(.int .i64 (IntKind.wrap .i64 (Int.tdiv s8.1 256))), (.slice y28.a y28.n y28.c), (.int .i64 (IntKind.wrap .i64 (s8.2.2 + 1)))]
 ) (
 C.ret (.slice s8.2.1.a s8.2.1.n s8.2.1.c)
 )
 )
theorem spec_l01Padded_eq (C : Comb) (x0 : Sl) (x1 : Int) : fT C Try.prog ⟨[(2, [(5, .slice)]), (5, [(1, (.int .i64)), (5, .slice), (6, (.int .i64))])], [], [], []⟩ n_spec_l01Padded [(.slice x0.a x0.n x0.c), (.int .i64 x1)] = spec_l01Padded C x0 x1 := by kernel_rfl
theorem spec_l01Padded_calls {R : Value → World → Prop} {w : World} (x0 : Sl) (x1 : Int) (h : (spec_l01Padded (real Try.prog R) x0 x1 : World → Prop) w) :
    Calls Try.prog n_spec_l01Padded [(.slice x0.a x0.n x0.c), (.int .i64 x1)].toArray w fun e w' => ∃ v, e = .returned v ∧ R v w' := fT_sound mixed ⟨[(2, [(5, .slice)]), (5, [(1, (.int .i64)), (5, .slice), (6, (.int .i64))])], [], [], []⟩ (by rw [spec_l01Padded_eq]; exact h)

def spec_l01Mix (C : Comb) (x0 : Array Value) (x1 : Array Value) : C.St :=
 C.new ty_arr8_uint32 (.agg x0) fun b2 =>
 C.new ty_arr32_uint8 (.agg x1) fun b3 =>
 C.new ty_arr8_uint32 (.agg (Array.replicate 8 (.int .u32 0))) fun b4 =>
 C.new ty_arr8_uint32 (.agg (Array.replicate 8 (.int .u32 0))) fun b5 =>
 C.st 8 (Addr.mk b5 0 none) (.agg (Array.replicate 8 (.int .u32 0))) <|
 C.loop (TL [(.int .i64)]) (embL [(.int .i64)]) [(.int .i64 0)] fun s5 ct5 => C.any fun _ =>
 cond (decide (s5 < 8)) (
 C.loop (TL [(.int .i64)]) (embL [(.int .i64)]) [(.int .i64 3)] fun s6 ct6 => C.any fun _ =>
 cond (decide (s6 ≥ 0)) (
 C.draw <|
 C.ix (some (Addr.mk b5 0 none)) 8 1 s5 fun p25 =>
 C.ld (.int .u32) 1 p25 fun v26 =>
 C.ix (some (Addr.mk b3 0 none)) 32 1 (IntKind.wrap .i64 ((IntKind.wrap .i64 (4 * s5)) + s6)) fun p32 =>
 C.ld (.int .u8) 1 p32 fun v33 =>
 C.ix (some (Addr.mk b5 0 none)) 8 1 s5 fun p36 =>
 C.st 1 p36 (.int .u32 (bitsI .or .u32 (IntKind.wrap .u32 (v26 * 2 ^ 8)) (IntKind.wrap .u32 (v33)))) <|
 ct6 [(.int .i64 (IntKind.wrap .i64 (s6 - 1)))]
 ) (
 ct5 [(.int .i64 (IntKind.wrap .i64 (s5 + 1)))]
 )
 ) (
 C.ld .agg 8 (Addr.mk b2 0 none) fun v37 =>
 C.new ty_arr8_uint32 (.agg (Array.replicate 8 (.int .u32 0))) fun b8 =>
 C.st 8 (Addr.mk b8 0 none) (.agg v37) <|
 C.loop (TL [(.int .i64)]) (embL [(.int .i64)]) [(.int .i64 0)] fun s14 ct14 => C.any fun _ =>
 cond (decide (s14 < 12)) (
 C.loop (TL [(.int .i64)]) (embL [(.int .i64)]) [(.int .i64 0)] fun s15 ct15 => C.any fun _ =>
 cond (decide (s15 < 8)) (
 C.draw <|
 C.ix (some (Addr.mk b8 0 none)) 8 1 s15 fun p47 =>
 C.ld (.int .u32) 1 p47 fun v48 =>
 C.ix (some (Addr.mk b5 0 none)) 8 1 (Int.tmod (IntKind.wrap .i64 (s15 + (IntKind.wrap .i64 (3 * s14)))) 8) fun p54 =>
 C.ld (.int .u32) 1 p54 fun v55 =>
 C.draw <|
 C.callQ n_spec_l01Turn [(.int .u32 (IntKind.wrap .u32 ((IntKind.wrap .u32 (v48 + v55)) + (IntKind.wrap .u32 (2654435769 * (IntKind.wrap .u32 ((IntKind.wrap .i64 ((IntKind.wrap .i64 ((IntKind.wrap .i64 (8 * s14)) + s15)) + 1))))))))), (.int .u64 7)] [(.int .u32)] fun r66 =>
 C.ix (some (Addr.mk b8 0 none)) 8 1 (Int.tmod (IntKind.wrap .i64 (s15 + 1)) 8) fun p70 =>
 C.ld (.int .u32) 1 p70 fun v71 =>
 C.ix (some (Addr.mk b8 0 none)) 8 1 (Int.tmod (IntKind.wrap .i64 (s15 + 5)) 8) fun p78 =>
 C.ld (.int .u32) 1 p78 fun v79 =>
 C.call n_spec_l01Turn [(.int .u32 v79), (.int .u64 13)] [(.int .u32)] fun r80 =>
 C.ix (some (Addr.mk b8 0 none)) 8 1 s15 fun p82 =>
 C.st 1 p82 (.int .u32 (IntKind.wrap .u32 ((bitsI .xor .u32 r66 v71) + r80))) <|
 ct15 [(.int .i64 (IntKind.wrap .i64 (s15 + 1)))]
 ) (
 ct14 [(.int .i64 (IntKind.wrap .i64 (s14 + 1)))]
 )
 ) (
 C.loop (TL [(.int .i64)]) (embL [(.int .i64)]) [(.int .i64 0)] fun s27 ct27 => C.any fun _ =>
 cond (decide (s27 < 8)) (
 C.draw <|
 C.ix (some (Addr.mk b8 0 none)) 8 1 s27 fun p88 =>
 C.ld (.int .u32) 1 p88 fun v89 =>
 C.ix (some (Addr.mk b2 0 none)) 8 1 s27 fun p91 =>
 C.ld (.int .u32) 1 p91 fun v92 =>
 C.ix (some (Addr.mk b8 0 none)) 8 1 s27 fun p94 =>
 C.st 1 p94 (.int .u32 (bitsI .xor .u32 v89 v92)) <|
 ct27 [(.int .i64 (IntKind.wrap .i64 (s27 + 1)))]
 ) (
 C.ld .agg 8 (Addr.mk b8 0 none) fun v95 =>
 C.st 8 (Addr.mk b4 0 none) (.agg v95) <|
 C.ld .agg 8 (Addr.mk b4 0 none) fun z34 =>
 C.ret (.agg z34)
 )
 )
 )
theorem spec_l01Mix_eq (C : Comb) (x0 : Array Value) (x1 : Array Value) : fT C Try.prog ⟨[(3, [(6, (.int .i64))]), (6, [(7, (.int .i64))]), (11, [(9, (.int .i64))]), (14, [(10, (.int .i64))]), (20, [(13, (.int .i64))])], [], [8, 22], []⟩ n_spec_l01Mix [(.agg x0), (.agg x1)] = spec_l01Mix C x0 x1 := by kernel_rfl
theorem spec_l01Mix_calls {R : Value → World → Prop} {w : World} (x0 : Array Value) (x1 : Array Value) (h : (spec_l01Mix (real Try.prog R) x0 x1 : World → Prop) w) :
    Calls Try.prog n_spec_l01Mix [(.agg x0), (.agg x1)].toArray w fun e w' => ∃ v, e = .returned v ∧ R v w' := fT_sound mixed ⟨[(3, [(6, (.int .i64))]), (6, [(7, (.int .i64))]), (11, [(9, (.int .i64))]), (14, [(10, (.int .i64))]), (20, [(13, (.int .i64))])], [], [8, 22], []⟩ (by rw [spec_l01Mix_eq]; exact h)

def spec_l01Block (C : Comb) (x0 : Sl) (x1 : Int) : C.St :=
 C.new ty_arr32_uint8 (.agg (Array.replicate 32 (.int .u8 0))) fun b4 =>
 C.new ty_arr32_uint8 (.agg (Array.replicate 32 (.int .u8 0))) fun b5 =>
 C.st 32 (Addr.mk b5 0 none) (.agg (Array.replicate 32 (.int .u8 0))) <|
 C.loop (TL [(.int .i64)]) (embL [(.int .i64)]) [(.int .i64 0)] fun s3 ct3 => C.any fun _ =>
 cond (decide (s3 < 32)) (
 C.ix x0.a x0.n 1 (IntKind.wrap .i64 (x1 + s3)) fun p17 =>
 C.ld (.int .u8) 1 p17 fun v18 =>
 C.ix (some (Addr.mk b5 0 none)) 32 1 s3 fun p19 =>
 C.st 1 p19 (.int .u8 v18) <|
 ct3 [(.int .i64 (IntKind.wrap .i64 (s3 + 1)))]
 ) (
 C.ld .agg 32 (Addr.mk b5 0 none) fun v20 =>
 C.st 32 (Addr.mk b4 0 none) (.agg v20) <|
 C.ld .agg 32 (Addr.mk b4 0 none) fun z8 =>
 C.ret (.agg z8)
 )
theorem spec_l01Block_eq (C : Comb) (x0 : Sl) (x1 : Int) : fT C Try.prog ⟨[(3, [(6, (.int .i64))])], [], [], []⟩ n_spec_l01Block [(.slice x0.a x0.n x0.c), (.int .i64 x1)] = spec_l01Block C x0 x1 := by kernel_rfl
theorem spec_l01Block_calls {R : Value → World → Prop} {w : World} (x0 : Sl) (x1 : Int) (h : (spec_l01Block (real Try.prog R) x0 x1 : World → Prop) w) :
    Calls Try.prog n_spec_l01Block [(.slice x0.a x0.n x0.c), (.int .i64 x1)].toArray w fun e w' => ∃ v, e = .returned v ∧ R v w' := fT_sound mixed ⟨[(3, [(6, (.int .i64))])], [], [], []⟩ (by rw [spec_l01Block_eq]; exact h)

def cmp_Compare_byte (C : Comb) (x0 : Int) (x1 : Int) : C.St :=
 C.call n_cmp_isNaN_byte [(.int .u8 x0)] [.bool] fun r8 =>
 C.call n_cmp_isNaN_byte [(.int .u8 x1)] [.bool] fun r10 =>
 cond r8 (
 cond r10 (
 C.ret (.int .i64 0)
 ) (
 C.ret (.int .i64 (-1))
 )
 ) (
 cond r10 (
 C.ret (.int .i64 1)
 ) (
 cond (decide (x0 < x1)) (
 C.ret (.int .i64 (-1))
 ) (
 cond (decide (x0 > x1)) (
 C.ret (.int .i64 1)
 ) (
 C.ret (.int .i64 0)
 )
 )
 )
 )
theorem cmp_Compare_byte_eq (C : Comb) (x0 : Int) (x1 : Int) : fT C Try.prog ⟨[], [], [], []⟩ n_cmp_Compare_byte [(.int .u8 x0), (.int .u8 x1)] = cmp_Compare_byte C x0 x1 := by kernel_rfl
theorem cmp_Compare_byte_calls {R : Value → World → Prop} {w : World} (x0 : Int) (x1 : Int) (h : (cmp_Compare_byte (real Try.prog R) x0 x1 : World → Prop) w) :
    Calls Try.prog n_cmp_Compare_byte [(.int .u8 x0), (.int .u8 x1)].toArray w fun e w' => ∃ v, e = .returned v ∧ R v w' := fT_sound mixed ⟨[], [], [], []⟩ (by rw [cmp_Compare_byte_eq]; exact h)

def impl_delta_1 (C : Comb) (x0 : Addr) (x1 : Addr) : C.St :=
 C.loop (TL []) (embL []) [] fun s1 ct1 => C.any fun _ =>
 C.ld .slice 1 x0 fun v3 =>
 cond (decide ((v3.n : Int) > 0)) (
 C.ld .slice 1 x0 fun v6 =>
 C.sem (Builtin.min_ #[ty_int, ty_int] ty_int #[(.int .i64 255), (.int .i64 (v6.n : Int))]) (.int .i64) fun y8 =>
 C.draw <|
 C.ld .slice 1 x1 fun v9 =>
 C.ld .slice 1 x0 fun v14 =>
 C.sl v14.a v14.n v14.c 1 none (some y8) none fun y16 =>
 C.sem (Instr.buildSlice ty_sl_uint8 2 #[(0, (.int .u8 0)), (1, (.int .u8 (IntKind.wrap .u8 (y8))))]) .slice fun y12 =>
 C.chk [⟨5, 1, x0, .slice, v14⟩, ⟨0, 1, x1, .slice, v9⟩] <|
 C.sem (Builtin.append_ #[ty_sl_uint8, ty_sl_uint8] ty_sl_uint8 #[(.slice v9.a v9.n v9.c), (.slice y12.a y12.n y12.c)]) .slice fun y13 =>
 C.chk [⟨5, 1, x0, .slice, v14⟩] <|
 C.sem (Builtin.append_ #[ty_sl_uint8, ty_sl_uint8] ty_sl_uint8 #[(.slice y13.a y13.n y13.c), (.slice y16.a y16.n y16.c)]) .slice fun y17 =>
 C.chk [⟨5, 1, x0, .slice, v14⟩] <|
 C.st 1 x1 (.slice y17.a y17.n y17.c) <|
 C.ld .slice 1 x0 fun v18 =>
 C.sl v18.a v18.n v18.c 1 (some y8) none none fun y20 =>
 C.st 1 x0 (.slice y20.a y20.n y20.c) <|
 ct1 []
 ) (
 C.ret (.tuple #[])
 )
theorem impl_delta_1_eq (C : Comb) (x0 : Addr) (x1 : Addr) : fT C Try.prog ⟨[(0, [])], [], [2], []⟩ n_impl_delta_1 [(.pointer (some x0)), (.pointer (some x1))] = impl_delta_1 C x0 x1 := by kernel_rfl
theorem impl_delta_1_calls {R : Value → World → Prop} {w : World} (x0 : Addr) (x1 : Addr) (h : (impl_delta_1 (real Try.prog R) x0 x1 : World → Prop) w) :
    Calls Try.prog n_impl_delta_1 [(.pointer (some x0)), (.pointer (some x1))].toArray w fun e w' => ∃ v, e = .returned v ∧ R v w' := fT_sound mixed ⟨[(0, [])], [], [2], []⟩ (by rw [impl_delta_1_eq]; exact h)

def impl_blocks (C : Comb) (x0 : Sl) : C.St :=
 C.sem (Instr.buildSlice ty_sl_arr32_uint8 0 #[]) .slice fun y5 =>
 C.loop (TL [.slice, .slice]) (embL [.slice, .slice]) [(.slice x0.a x0.n x0.c), (.slice y5.a y5.n y5.c)] fun s2 ct2 => C.any fun _ =>
 cond (decide ((s2.1.n : Int) ≥ 32)) (
 C.pur (Instr.arrayAt ty_arr32_uint8 (.slice s2.1.a s2.1.n s2.1.c)) .ptr fun y11 =>
 C.ld .agg 32 y11 fun v12 =>
 C.sem (Instr.buildSlice ty_sl_arr32_uint8 1 #[(0, (.agg v12))]) .slice fun y13 =>
 C.sem (Builtin.append_ #[ty_sl_arr32_uint8, ty_sl_arr32_uint8] ty_sl_arr32_uint8 #[(.slice s2.2.a s2.2.n s2.2.c), (.slice y13.a y13.n y13.c)]) .slice fun y14 =>
 C.sl s2.1.a s2.1.n s2.1.c 1 (some 32) none none fun y16 =>
 ct2 [(.slice y16.a y16.n y16.c), (.slice y14.a y14.n y14.c)]
 ) (
 C.ret (.tuple #[(.slice s2.2.a s2.2.n s2.2.c), (.slice s2.1.a s2.1.n s2.1.c)])
 )
theorem impl_blocks_eq (C : Comb) (x0 : Sl) : fT C Try.prog ⟨[(2, [(0, .slice), (4, .slice)])], [], [], []⟩ n_impl_blocks [(.slice x0.a x0.n x0.c)] = impl_blocks C x0 := by kernel_rfl
theorem impl_blocks_calls {R : Value → World → Prop} {w : World} (x0 : Sl) (h : (impl_blocks (real Try.prog R) x0 : World → Prop) w) :
    Calls Try.prog n_impl_blocks [(.slice x0.a x0.n x0.c)].toArray w fun e w' => ∃ v, e = .returned v ∧ R v w' := fT_sound mixed ⟨[(2, [(0, .slice), (4, .slice)])], [], [], []⟩ (by rw [impl_blocks_eq]; exact h)

def slices_Concat_sl_byte_byte (C : Comb) (x0 : Sl) : C.St :=
 C.loop (TL [(.int .i64), (.int .i64)]) (embL [(.int .i64), (.int .i64)]) [(.int .i64 0), (.int .i64 0)] fun s1 ct1 => C.any fun _ =>
 cond (decide (s1.2 < (x0.n : Int))) (
 C.ix x0.a x0.n 1 s1.2 fun p13 =>
 C.ld .slice 1 p13 fun v14 =>
 cond (decide ((IntKind.wrap .i64 (s1.1 + (v14.n : Int))) < 0)) (
 C.pur (Instr.makeInterface ty_string (.string (⟨#[108, 101, 110, 32, 111, 117, 116, 32, 111, 102, 32, 114, 97, 110, 103, 101]⟩ : ByteArray))) .val fun y21 =>
 C.fail
 ) (
 ct1 [(.int .i64 (IntKind.wrap .i64 (s1.1 + (v14.n : Int)))), (.int .i64 (IntKind.wrap .i64 (s1.2 + 1)))]
 )
 ) (
 C.call n_slices_Grow_sl_byte_byte [(.slice none 0 0), (.int .i64 s1.1)] [.slice] fun r24 =>
 C.loop (TL [.slice, (.int .i64)]) (embL [.slice, (.int .i64)]) [(.slice r24.a r24.n r24.c), (.int .i64 0)] fun s6 ct6 => C.any fun _ =>
 cond (decide (s6.2 < (x0.n : Int))) (
 C.ix x0.a x0.n 1 s6.2 fun p29 =>
 C.ld .slice 1 p29 fun v30 =>
 C.sem (Builtin.append_ #[ty_sl_uint8, ty_sl_uint8] ty_sl_uint8 #[(.slice s6.1.a s6.1.n s6.1.c), (.slice v30.a v30.n v30.c)]) .slice fun y33 =>
 ct6 [(.slice y33.a y33.n y33.c), (.int .i64 (IntKind.wrap .i64 (s6.2 + 1)))]
 ) (
 C.ret (.slice s6.1.a s6.1.n s6.1.c)
 )
 )
theorem slices_Concat_sl_byte_byte_eq (C : Comb) (x0 : Sl) : fT C Try.prog ⟨[(3, [(3, (.int .i64)), (11, (.int .i64))]), (11, [(6, .slice), (27, (.int .i64))])], [], [], []⟩ n_slices_Concat_sl_byte_byte [(.slice x0.a x0.n x0.c)] = slices_Concat_sl_byte_byte C x0 := by kernel_rfl
theorem slices_Concat_sl_byte_byte_calls {R : Value → World → Prop} {w : World} (x0 : Sl) (h : (slices_Concat_sl_byte_byte (real Try.prog R) x0 : World → Prop) w) :
    Calls Try.prog n_slices_Concat_sl_byte_byte [(.slice x0.a x0.n x0.c)].toArray w fun e w' => ∃ v, e = .returned v ∧ R v w' := fT_sound mixed ⟨[(3, [(3, (.int .i64)), (11, (.int .i64))]), (11, [(6, .slice), (27, (.int .i64))])], [], [], []⟩ (by rw [slices_Concat_sl_byte_byte_eq]; exact h)

def impl_padding (C : Comb) (x0 : Int) : C.St :=
 C.sem (Instr.buildSlice ty_sl_uint8 1 #[(0, (.int .u8 128))]) .slice fun y4 =>
 C.loop (TL [.slice]) (embL [.slice]) [(.slice y4.a y4.n y4.c)] fun s2 ct2 => C.any fun _ =>
 C.call n_impl_size_byte [(.slice s2.a s2.n s2.c)] [(.int .i64)] fun r7 =>
 cond ((Int.tmod (IntKind.wrap .i64 (x0 + r7)) 32) != 24) (
 C.sem (Instr.buildSlice ty_sl_uint8 1 #[(0, (.int .u8 0))]) .slice fun y12 =>
 C.sem (Builtin.append_ #[ty_sl_uint8, ty_sl_uint8] ty_sl_uint8 #[(.slice s2.a s2.n s2.c), (.slice y12.a y12.n y12.c)]) .slice fun y13 =>
 ct2 [(.slice y13.a y13.n y13.c)]
 ) (
 C.call n_impl_appendLittle [(.slice s2.a s2.n s2.c), (.int .u64 (IntKind.wrap .u64 (x0))), (.int .i64 8)] [.slice] fun r17 =>
 C.ret (.slice r17.a r17.n r17.c)
 )
theorem impl_padding_eq (C : Comb) (x0 : Int) : fT C Try.prog ⟨[(2, [(3, .slice)])], [], [], []⟩ n_impl_padding [(.int .i64 x0)] = impl_padding C x0 := by kernel_rfl
theorem impl_padding_calls {R : Value → World → Prop} {w : World} (x0 : Int) (h : (impl_padding (real Try.prog R) x0 : World → Prop) w) :
    Calls Try.prog n_impl_padding [(.int .i64 x0)].toArray w fun e w' => ∃ v, e = .returned v ∧ R v w' := fT_sound mixed ⟨[(2, [(3, .slice)])], [], [], []⟩ (by rw [impl_padding_eq]; exact h)

def impl_size_byte (C : Comb) (x0 : Sl) : C.St :=
 C.ret (.int .i64 (x0.n : Int))
theorem impl_size_byte_eq (C : Comb) (x0 : Sl) : fT C Try.prog ⟨[], [], [], []⟩ n_impl_size_byte [(.slice x0.a x0.n x0.c)] = impl_size_byte C x0 := by kernel_rfl
theorem impl_size_byte_calls {R : Value → World → Prop} {w : World} (x0 : Sl) (h : (impl_size_byte (real Try.prog R) x0 : World → Prop) w) :
    Calls Try.prog n_impl_size_byte [(.slice x0.a x0.n x0.c)].toArray w fun e w' => ∃ v, e = .returned v ∧ R v w' := fT_sound mixed ⟨[], [], [], []⟩ (by rw [impl_size_byte_eq]; exact h)

def impl_keyOf (C : Comb) (x0 : Array Value) : C.St :=
 C.new ty_arr8_uint32 (.agg x0) fun b1 =>
 C.new ty_impl_Key (.agg (Array.replicate 32 (.int .u8 0))) fun b2 =>
 C.new ty_impl_Key (.agg (Array.replicate 32 (.int .u8 0))) fun b3 =>
 C.st 32 (Addr.mk b3 0 none) (.agg (Array.replicate 32 (.int .u8 0))) <|
 C.ld .agg 8 (Addr.mk b1 0 none) fun v7 =>
 C.loop (TL [(.int .i64)]) (embL [(.int .i64)]) [(.int .i64 0)] fun s5 ct5 => C.any fun _ =>
 cond (decide (s5 < 8)) (
 C.ixV (.int .u32) v7 8 1 s5 fun y11 =>
 C.draw <|
 C.sl (some (Addr.mk b3 0 none)) 32 32 1 (some (IntKind.wrap .i64 (4 * s5))) none none fun y14 =>
 C.call n_impl_appendLittle [(.slice none 0 0), (.int .u64 (IntKind.wrap .u64 (y11))), (.int .i64 4)] [.slice] fun r17 =>
 C.sem (Builtin.copy_ #[ty_sl_uint8, ty_sl_uint8] ty_int #[(.slice y14.a y14.n y14.c), (.slice r17.a r17.n r17.c)]) (.int .i64) fun y18 =>
 ct5 [(.int .i64 (IntKind.wrap .i64 (s5 + 1)))]
 ) (
 C.ld .agg 32 (Addr.mk b3 0 none) fun v20 =>
 C.st 32 (Addr.mk b2 0 none) (.agg v20) <|
 C.ld .agg 32 (Addr.mk b2 0 none) fun z11 =>
 C.ret (.agg z11)
 )
theorem impl_keyOf_eq (C : Comb) (x0 : Array Value) : fT C Try.prog ⟨[(3, [(8, (.int .i64))])], [], [5], []⟩ n_impl_keyOf [(.agg x0)] = impl_keyOf C x0 := by kernel_rfl
theorem impl_keyOf_calls {R : Value → World → Prop} {w : World} (x0 : Array Value) (h : (impl_keyOf (real Try.prog R) x0 : World → Prop) w) :
    Calls Try.prog n_impl_keyOf [(.agg x0)].toArray w fun e w' => ∃ v, e = .returned v ∧ R v w' := fT_sound mixed ⟨[(3, [(8, (.int .i64))])], [], [5], []⟩ (by rw [impl_keyOf_eq]; exact h)

def impl_mixed (C : Comb) (x0 : Array Value) (x1 : Sl) : C.St :=
 C.new ty_arr8_uint32 (.agg x0) fun b2 =>
 C.new ty_arr8_uint32 (.agg (Array.replicate 8 (.int .u32 0))) fun b4 =>
 C.loop (TL [(.int .i64)]) (embL [(.int .i64)]) [(.int .i64 0)] fun s3 ct3 => C.any fun _ =>
 cond (decide (s3 < (x1.n : Int))) (
 C.ix x1.a x1.n 32 s3 fun p11 =>
 C.ld .agg 32 p11 fun v12 =>
 C.new ty_arr32_uint8 (.agg (Array.replicate 32 (.int .u8 0))) fun b6 =>
 C.st 32 (Addr.mk b6 0 none) (.agg v12) <|
 C.ld .agg 8 (Addr.mk b2 0 none) fun v13 =>
 C.ld .agg 32 (Addr.mk b6 0 none) fun v14 =>
 C.call n_impl_MixBlock [(.agg v13), (.agg v14)] [.agg] fun r15 =>
 C.st 8 (Addr.mk b2 0 none) (.agg r15) <|
 ct3 [(.int .i64 (IntKind.wrap .i64 (s3 + 1)))]
 ) (
 C.ld .agg 8 (Addr.mk b2 0 none) fun v17 =>
 C.st 8 (Addr.mk b4 0 none) (.agg v17) <|
 C.ld .agg 8 (Addr.mk b4 0 none) fun z11 =>
 C.ret (.agg z11)
 )
theorem impl_mixed_eq (C : Comb) (x0 : Array Value) (x1 : Sl) : fT C Try.prog ⟨[(2, [(9, (.int .i64))])], [], [], []⟩ n_impl_mixed [(.agg x0), (.slice x1.a x1.n x1.c)] = impl_mixed C x0 x1 := by kernel_rfl
theorem impl_mixed_calls {R : Value → World → Prop} {w : World} (x0 : Array Value) (x1 : Sl) (h : (impl_mixed (real Try.prog R) x0 x1 : World → Prop) w) :
    Calls Try.prog n_impl_mixed [(.agg x0), (.slice x1.a x1.n x1.c)].toArray w fun e w' => ∃ v, e = .returned v ∧ R v w' := fT_sound mixed ⟨[(2, [(9, (.int .i64))])], [], [], []⟩ (by rw [impl_mixed_eq]; exact h)

def impl_StartState (C : Comb) (x0 : Int) : C.St :=
 C.new ty_arr8_uint32 (.agg (Array.replicate 8 (.int .u32 0))) fun b2 =>
 C.new ty_arr8_uint32 (.agg (Array.replicate 8 (.int .u32 0))) fun b3 =>
 C.st 8 (Addr.mk b3 0 none) (.agg (Array.replicate 8 (.int .u32 0))) <|
 C.loop (TL [(.int .i64)]) (embL [(.int .i64)]) [(.int .i64 0)] fun s3 ct3 => C.any fun _ =>
 cond (decide (s3 < 8)) (
 C.ix (some (Addr.mk b3 0 none)) 8 1 s3 fun p17 =>
 C.st 1 p17 (.int .u32 (IntKind.wrap .u32 ((IntKind.wrap .u32 (16777619 * (IntKind.wrap .u32 ((IntKind.wrap .i64 (s3 + 1)))))) + (IntKind.wrap .u32 (x0))))) <|
 ct3 [(.int .i64 (IntKind.wrap .i64 (s3 + 1)))]
 ) (
 C.ld .agg 8 (Addr.mk b3 0 none) fun v19 =>
 C.st 8 (Addr.mk b2 0 none) (.agg v19) <|
 C.ld .agg 8 (Addr.mk b2 0 none) fun z6 =>
 C.ret (.agg z6)
 )
theorem impl_StartState_eq (C : Comb) (x0 : Int) : fT C Try.prog ⟨[(3, [(6, (.int .i64))])], [], [], []⟩ n_impl_StartState [(.int .u8 x0)] = impl_StartState C x0 := by kernel_rfl
theorem impl_StartState_calls {R : Value → World → Prop} {w : World} (x0 : Int) (h : (impl_StartState (real Try.prog R) x0 : World → Prop) w) :
    Calls Try.prog n_impl_StartState [(.int .u8 x0)].toArray w fun e w' => ∃ v, e = .returned v ∧ R v w' := fT_sound mixed ⟨[(3, [(6, (.int .i64))])], [], [], []⟩ (by rw [impl_StartState_eq]; exact h)

def spec_l01Turn (C : Comb) (x0 : Int) (x1 : Int) : C.St :=
 C.pur (eqB .shl ty_uint32 (.tmp 5) (.tmp 6) (.int .u32 x0) (.int .u64 x1)) (.int .u32) fun y7 =>
 C.pur (eqB .shr ty_uint32 (.tmp 8) (.tmp 10) (.int .u32 x0) (.int .u64 (IntKind.wrap .u64 (32 - x1)))) (.int .u32) fun y11 =>
 C.ret (.int .u32 (bitsI .or .u32 y7 y11))
theorem spec_l01Turn_eq (C : Comb) (x0 : Int) (x1 : Int) : fT C Try.prog ⟨[], [], [], []⟩ n_spec_l01Turn [(.int .u32 x0), (.int .u64 x1)] = spec_l01Turn C x0 x1 := by kernel_rfl
theorem spec_l01Turn_calls {R : Value → World → Prop} {w : World} (x0 : Int) (x1 : Int) (h : (spec_l01Turn (real Try.prog R) x0 x1 : World → Prop) w) :
    Calls Try.prog n_spec_l01Turn [(.int .u32 x0), (.int .u64 x1)].toArray w fun e w' => ∃ v, e = .returned v ∧ R v w' := fT_sound mixed ⟨[], [], [], []⟩ (by rw [spec_l01Turn_eq]; exact h)

def cmp_isNaN_byte (C : Comb) (x0 : Int) : C.St :=
 C.ret (.bool (x0 != x0))
theorem cmp_isNaN_byte_eq (C : Comb) (x0 : Int) : fT C Try.prog ⟨[], [], [], []⟩ n_cmp_isNaN_byte [(.int .u8 x0)] = cmp_isNaN_byte C x0 := by kernel_rfl
theorem cmp_isNaN_byte_calls {R : Value → World → Prop} {w : World} (x0 : Int) (h : (cmp_isNaN_byte (real Try.prog R) x0 : World → Prop) w) :
    Calls Try.prog n_cmp_isNaN_byte [(.int .u8 x0)].toArray w fun e w' => ∃ v, e = .returned v ∧ R v w' := fT_sound mixed ⟨[], [], [], []⟩ (by rw [cmp_isNaN_byte_eq]; exact h)

def slices_Grow_sl_byte_byte (C : Comb) (x0 : Sl) (x1 : Int) : C.St :=
 C.join (TL []) (embL []) (fun s2 => C.any fun _ =>
 cond (decide ((IntKind.wrap .i64 (x1 - (IntKind.wrap .i64 ((x0.c : Int) - (x0.n : Int))))) > 0)) (
 C.sl x0.a x0.n x0.c 1 none (some (x0.c : Int)) none fun y20 =>
 C.sem (Builtin.append_ #[ty_sl_uint8, ty_int] ty_sl_uint8 #[(.slice y20.a y20.n y20.c), (.int .i64 (IntKind.wrap .i64 (x1 - (IntKind.wrap .i64 ((x0.c : Int) - (x0.n : Int))))))]) .slice fun y22 =>
 C.sl y22.a y22.n y22.c 1 none (some (x0.n : Int)) none fun y25 =>
 C.ret (.slice y25.a y25.n y25.c)
 ) (
 C.ret (.slice x0.a x0.n x0.c)
 )
 ) fun jt =>
 cond (decide (x1 < 0)) (
 C.pur (Instr.makeInterface ty_string (.string (⟨#[99, 97, 110, 110, 111, 116, 32, 98, 101, 32, 110, 101, 103, 97, 116, 105, 118, 101]⟩ : ByteArray))) .val fun y7 =>
 C.fail
 ) (
 jt []
 )
theorem slices_Grow_sl_byte_byte_eq (C : Comb) (x0 : Sl) (x1 : Int) : fT C Try.prog ⟨[], [(18, [])], [], []⟩ n_slices_Grow_sl_byte_byte [(.slice x0.a x0.n x0.c), (.int .i64 x1)] = slices_Grow_sl_byte_byte C x0 x1 := by kernel_rfl
theorem slices_Grow_sl_byte_byte_calls {R : Value → World → Prop} {w : World} (x0 : Sl) (x1 : Int) (h : (slices_Grow_sl_byte_byte (real Try.prog R) x0 x1 : World → Prop) w) :
    Calls Try.prog n_slices_Grow_sl_byte_byte [(.slice x0.a x0.n x0.c), (.int .i64 x1)].toArray w fun e w' => ∃ v, e = .returned v ∧ R v w' := fT_sound mixed ⟨[], [(18, [])], [], []⟩ (by rw [slices_Grow_sl_byte_byte_eq]; exact h)

def impl_MixBlock (C : Comb) (x0 : Array Value) (x1 : Array Value) : C.St :=
 C.new ty_arr8_uint32 (.agg x0) fun b2 =>
 C.new ty_arr32_uint8 (.agg x1) fun b3 =>
 C.new ty_arr8_uint32 (.agg (Array.replicate 8 (.int .u32 0))) fun b4 =>
 C.new ty_arr8_uint32 (.agg (Array.replicate 8 (.int .u32 0))) fun b5 =>
 C.st 8 (Addr.mk b5 0 none) (.agg (Array.replicate 8 (.int .u32 0))) <|
 C.loop (TL [(.int .i64)]) (embL [(.int .i64)]) [(.int .i64 0)] fun s5 ct5 => C.any fun _ =>
 cond (decide (s5 < 8)) (
 C.sl (some (Addr.mk b3 0 none)) 32 32 1 (some (IntKind.wrap .i64 (4 * s5))) (some (IntKind.wrap .i64 ((IntKind.wrap .i64 (4 * s5)) + 4))) none fun y23 =>
 C.call n_impl_littleNumber [(.slice y23.a y23.n y23.c)] [(.int .u64)] fun r24 =>
 C.ix (some (Addr.mk b5 0 none)) 8 1 s5 fun p26 =>
 C.st 1 p26 (.int .u32 (IntKind.wrap .u32 (r24))) <|
 ct5 [(.int .i64 (IntKind.wrap .i64 (s5 + 1)))]
 ) (
 C.ld .agg 8 (Addr.mk b2 0 none) fun v28 =>
 C.new ty_arr8_uint32 (.agg (Array.replicate 8 (.int .u32 0))) fun b7 =>
 C.st 8 (Addr.mk b7 0 none) (.agg v28) <|
 C.loop (TL [(.int .i64)]) (embL [(.int .i64)]) [(.int .i64 0)] fun s11 ct11 => C.any fun _ =>
 cond (decide (s11 < 12)) (
 C.loop (TL [(.int .i64)]) (embL [(.int .i64)]) [(.int .i64 0)] fun s12 ct12 => C.any fun _ =>
 cond (decide (s12 < 8)) (
 C.draw <|
 C.ix (some (Addr.mk b7 0 none)) 8 1 s12 fun p36 =>
 C.ld (.int .u32) 1 p36 fun v37 =>
 C.ix (some (Addr.mk b5 0 none)) 8 1 (Int.tmod (IntKind.wrap .i64 (s12 + (IntKind.wrap .i64 (3 * s11)))) 8) fun p43 =>
 C.ld (.int .u32) 1 p43 fun v44 =>
 C.draw <|
 C.callQ n_math_bits_RotateLeft32 [(.int .u32 (IntKind.wrap .u32 ((IntKind.wrap .u32 (v37 + v44)) + (IntKind.wrap .u32 (2654435769 * (IntKind.wrap .u32 ((IntKind.wrap .i64 ((IntKind.wrap .i64 ((IntKind.wrap .i64 (8 * s11)) + s12)) + 1))))))))), (.int .i64 7)] [(.int .u32)] fun r55 =>
 C.ix (some (Addr.mk b7 0 none)) 8 1 (Int.tmod (IntKind.wrap .i64 (s12 + 1)) 8) fun p59 =>
 C.ld (.int .u32) 1 p59 fun v60 =>
 C.ix (some (Addr.mk b7 0 none)) 8 1 (Int.tmod (IntKind.wrap .i64 (s12 + 5)) 8) fun p67 =>
 C.ld (.int .u32) 1 p67 fun v68 =>
 C.call n_math_bits_RotateLeft32 [(.int .u32 v68), (.int .i64 13)] [(.int .u32)] fun r69 =>
 C.ix (some (Addr.mk b7 0 none)) 8 1 s12 fun p71 =>
 C.st 1 p71 (.int .u32 (IntKind.wrap .u32 ((bitsI .xor .u32 r55 v60) + r69))) <|
 ct12 [(.int .i64 (IntKind.wrap .i64 (s12 + 1)))]
 ) (
 ct11 [(.int .i64 (IntKind.wrap .i64 (s11 + 1)))]
 )
 ) (
 C.loop (TL [(.int .i64)]) (embL [(.int .i64)]) [(.int .i64 0)] fun s24 ct24 => C.any fun _ =>
 cond (decide (s24 < 8)) (
 C.draw <|
 C.ix (some (Addr.mk b7 0 none)) 8 1 s24 fun p78 =>
 C.ld (.int .u32) 1 p78 fun v79 =>
 C.ix (some (Addr.mk b2 0 none)) 8 1 s24 fun p81 =>
 C.ld (.int .u32) 1 p81 fun v82 =>
 C.ix (some (Addr.mk b7 0 none)) 8 1 s24 fun p84 =>
 C.st 1 p84 (.int .u32 (bitsI .xor .u32 v79 v82)) <|
 ct24 [(.int .i64 (IntKind.wrap .i64 (s24 + 1)))]
 ) (
 C.ld .agg 8 (Addr.mk b7 0 none) fun v86 =>
 C.st 8 (Addr.mk b4 0 none) (.agg v86) <|
 C.ld .agg 8 (Addr.mk b4 0 none) fun z31 =>
 C.ret (.agg z31)
 )
 )
 )
theorem impl_MixBlock_eq (C : Comb) (x0 : Array Value) (x1 : Array Value) : fT C Try.prog ⟨[(3, [(14, (.int .i64))]), (9, [(29, (.int .i64))]), (12, [(32, (.int .i64))]), (20, [(74, (.int .i64))])], [], [22], []⟩ n_impl_MixBlock [(.agg x0), (.agg x1)] = impl_MixBlock C x0 x1 := by kernel_rfl
theorem impl_MixBlock_calls {R : Value → World → Prop} {w : World} (x0 : Array Value) (x1 : Array Value) (h : (impl_MixBlock (real Try.prog R) x0 x1 : World → Prop) w) :
    Calls Try.prog n_impl_MixBlock [(.agg x0), (.agg x1)].toArray w fun e w' => ∃ v, e = .returned v ∧ R v w' := fT_sound mixed ⟨[(3, [(14, (.int .i64))]), (9, [(29, (.int .i64))]), (12, [(32, (.int .i64))]), (20, [(74, (.int .i64))])], [], [22], []⟩ (by rw [impl_MixBlock_eq]; exact h)

def impl_littleNumber (C : Comb) (x0 : Sl) : C.St :=
 C.loop (TL [(.int .u64), (.int .i64)]) (embL [(.int .u64), (.int .i64)]) [(.int .u64 0), (.int .i64 0)] fun s1 ct1 => C.any fun _ =>
 cond (decide (s1.2 < (x0.n : Int))) (
 C.ix x0.a x0.n 1 s1.2 fun p11 =>
 C.ld (.int .u8) 1 p11 fun v12 =>
 C.pur (eqB .shl ty_uint64 (.tmp 15) (.tmp 17) (.int .u64 (IntKind.wrap .u64 (v12))) (.int .i64 (IntKind.wrap .i64 (8 * s1.2)))) (.int .u64) fun y18 =>
 ct1 [(.int .u64 (bitsI .or .u64 s1.1 y18)), (.int .i64 (IntKind.wrap .i64 (s1.2 + 1)))]
 ) (
 C.ret (.int .u64 s1.1)
 )
theorem impl_littleNumber_eq (C : Comb) (x0 : Sl) : fT C Try.prog ⟨[(3, [(3, (.int .u64)), (8, (.int .i64))])], [], [], []⟩ n_impl_littleNumber [(.slice x0.a x0.n x0.c)] = impl_littleNumber C x0 := by kernel_rfl
theorem impl_littleNumber_calls {R : Value → World → Prop} {w : World} (x0 : Sl) (h : (impl_littleNumber (real Try.prog R) x0 : World → Prop) w) :
    Calls Try.prog n_impl_littleNumber [(.slice x0.a x0.n x0.c)].toArray w fun e w' => ∃ v, e = .returned v ∧ R v w' := fT_sound mixed ⟨[(3, [(3, (.int .u64)), (8, (.int .i64))])], [], [], []⟩ (by rw [impl_littleNumber_eq]; exact h)

def math_bits_RotateLeft32 (C : Comb) (x0 : Int) (x1 : Int) : C.St :=
 C.pur (eqB .shl ty_uint32 (.tmp 9) (.tmp 10) (.int .u32 x0) (.int .u64 (bitsI .and .u64 (IntKind.wrap .u64 (x1)) 31))) (.int .u32) fun y11 =>
 C.pur (eqB .shr ty_uint32 (.tmp 12) (.tmp 14) (.int .u32 x0) (.int .u64 (IntKind.wrap .u64 (32 - (bitsI .and .u64 (IntKind.wrap .u64 (x1)) 31))))) (.int .u32) fun y15 =>
 C.ret (.int .u32 (bitsI .or .u32 y11 y15))
theorem math_bits_RotateLeft32_eq (C : Comb) (x0 : Int) (x1 : Int) : fT C Try.prog ⟨[], [], [], []⟩ n_math_bits_RotateLeft32 [(.int .u32 x0), (.int .i64 x1)] = math_bits_RotateLeft32 C x0 x1 := by kernel_rfl
theorem math_bits_RotateLeft32_calls {R : Value → World → Prop} {w : World} (x0 : Int) (x1 : Int) (h : (math_bits_RotateLeft32 (real Try.prog R) x0 x1 : World → Prop) w) :
    Calls Try.prog n_math_bits_RotateLeft32 [(.int .u32 x0), (.int .i64 x1)].toArray w fun e w' => ∃ v, e = .returned v ∧ R v w' := fT_sound mixed ⟨[], [], [], []⟩ (by rw [math_bits_RotateLeft32_eq]; exact h)
end Go.Proofs.Ytkifkdkjljcclaa
