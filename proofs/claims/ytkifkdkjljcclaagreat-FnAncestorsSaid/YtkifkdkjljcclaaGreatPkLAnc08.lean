/- Printed by a program of this claim's author: each Go function as a Lean function over abstract combinators, and the equation that says that T makes it of the loaded code. -/
import Derived.Test.YtkifkdkjljcclaaGreatProg
import Derived.Test.YtkifkdkjljcclaaGreatPkLAnc07
namespace Go.Proofs.YtkifkdkjljcclaaGreat
open Go.Sx
def spec_MapKey (C : Comb) (x0 : Sl) : C.St :=
 C.new ty_impl_Key (.agg (Array.replicate 32 (.int .u8 0))) fun b2 =>
 C.call n_spec_l04Ok [(.slice x0.a x0.n x0.c)] [.bool] fun r7 =>
 cond (!r7) (
 C.st 32 (Addr.mk b2 0 none) (.agg (Array.replicate 32 (.int .u8 0))) <|
 C.ld .agg 32 (Addr.mk b2 0 none) fun z3 =>
 C.ret (.tuple #[(.agg z3), (.int .i64 1)])
 ) (
 C.call n_spec_l04Nodes [(.slice x0.a x0.n x0.c)] [.slice, .agg] fun r12 =>
 C.new ty_impl_Key (.agg (Array.replicate 32 (.int .u8 0))) fun b5 =>
 C.st 32 (Addr.mk b5 0 none) (.agg r12.2) <|
 C.ld .agg 32 (Addr.mk b5 0 none) fun v15 =>
 C.st 32 (Addr.mk b2 0 none) (.agg v15) <|
 C.ld .agg 32 (Addr.mk b2 0 none) fun z7 =>
 C.ret (.tuple #[(.agg z7), (.int .i64 0)])
 )
theorem spec_MapKey_eq (C : Comb) (x0 : Sl) : fT C Tryz.prog ⟨[], [], [], []⟩ n_spec_MapKey [(.slice x0.a x0.n x0.c)] = spec_MapKey C x0 := by kernel_rfl
theorem spec_MapKey_calls {R : Value → World → Prop} {w : World} (x0 : Sl) (h : (spec_MapKey (real Tryz.prog R) x0 : World → Prop) w) :
    Calls Tryz.prog n_spec_MapKey [(.slice x0.a x0.n x0.c)].toArray w fun e w' => ∃ v, e = .returned v ∧ R v w' := fT_sound mixed ⟨[], [], [], []⟩ (by rw [spec_MapKey_eq]; exact h)

def spec_l00From (C : Comb) (x0 : Sl) : C.St :=
 C.pur (Instr.build ty_spec_l00Src #[(0, (.slice x0.a x0.n x0.c))]) .agg fun y4 =>
 C.new ty_spec_l00Src (.agg y4) fun b5 =>
 C.ret (.pointer (some (Addr.mk b5 0 none)))
theorem spec_l00From_eq (C : Comb) (x0 : Sl) : fT C Tryz.prog ⟨[], [], [], []⟩ n_spec_l00From [(.slice x0.a x0.n x0.c)] = spec_l00From C x0 := by kernel_rfl
theorem spec_l00From_calls {R : Value → World → Prop} {w : World} (x0 : Sl) (h : (spec_l00From (real Tryz.prog R) x0 : World → Prop) w) :
    Calls Tryz.prog n_spec_l00From [(.slice x0.a x0.n x0.c)].toArray w fun e w' => ∃ v, e = .returned v ∧ R v w' := fT_sound mixed ⟨[], [], [], []⟩ (by rw [spec_l00From_eq]; exact h)

def ptr_spec_l00Src_pick (C : Comb) (x0 : Addr) (x1 : Int) : C.St :=
 cond (decide (x1 ≤ 1)) (
 C.ret (.int .i64 0)
 ) (
 C.call n_ptr_spec_l00Src_next [(.pointer (some x0))] [(.int .i64)] fun r9 =>
 cond (decide (x1 > 200)) (
 C.call n_ptr_spec_l00Src_next [(.pointer (some x0))] [(.int .i64)] fun r15 =>
 C.pur (eqB .rem ty_int64 (.tmp 17) (.tmp 18) (.int .i64 (IntKind.wrap .i64 ((IntKind.wrap .i64 (r9 * 256)) + r15))) (.int .i64 x1)) (.int .i64) fun y19 =>
 C.ret (.int .i64 y19)
 ) (
 C.pur (eqB .rem ty_int64 (.tmp 17) (.tmp 18) (.int .i64 r9) (.int .i64 x1)) (.int .i64) fun y19 =>
 C.ret (.int .i64 y19)
 )
 )
theorem ptr_spec_l00Src_pick_eq (C : Comb) (x0 : Addr) (x1 : Int) : fT C Tryz.prog ⟨[], [], [], []⟩ n_ptr_spec_l00Src_pick [(.pointer (some x0)), (.int .i64 x1)] = ptr_spec_l00Src_pick C x0 x1 := by kernel_rfl
theorem ptr_spec_l00Src_pick_calls {R : Value → World → Prop} {w : World} (x0 : Addr) (x1 : Int) (h : (ptr_spec_l00Src_pick (real Tryz.prog R) x0 x1 : World → Prop) w) :
    Calls Tryz.prog n_ptr_spec_l00Src_pick [(.pointer (some x0)), (.int .i64 x1)].toArray w fun e w' => ∃ v, e = .returned v ∧ R v w' := fT_sound mixed ⟨[], [], [], []⟩ (by rw [ptr_spec_l00Src_pick_eq]; exact h)

def impl_within (C : Comb) (x0 : Int) (x1 : Int) (x2 : Int) : C.St :=
 cond (decide (x0 ≥ x1)) (
 C.ret (.bool (decide (x0 ≤ x2)))
 ) (
 C.ret (.bool false)
 )
theorem impl_within_eq (C : Comb) (x0 : Int) (x1 : Int) (x2 : Int) : fT C Tryz.prog ⟨[], [], [], []⟩ n_impl_within [(.int .i64 x0), (.int .i64 x1), (.int .i64 x2)] = impl_within C x0 x1 x2 := by kernel_rfl
theorem impl_within_calls {R : Value → World → Prop} {w : World} (x0 : Int) (x1 : Int) (x2 : Int) (h : (impl_within (real Tryz.prog R) x0 x1 x2 : World → Prop) w) :
    Calls Tryz.prog n_impl_within [(.int .i64 x0), (.int .i64 x1), (.int .i64 x2)].toArray w fun e w' => ∃ v, e = .returned v ∧ R v w' := fT_sound mixed ⟨[], [], [], []⟩ (by rw [impl_within_eq]; exact h)

def impl_size_byte (C : Comb) (x0 : Sl) : C.St :=
 C.ret (.int .i64 (x0.n : Int))
theorem impl_size_byte_eq (C : Comb) (x0 : Sl) : fT C Tryz.prog ⟨[], [], [], []⟩ n_impl_size_byte [(.slice x0.a x0.n x0.c)] = impl_size_byte C x0 := by kernel_rfl
theorem impl_size_byte_calls {R : Value → World → Prop} {w : World} (x0 : Sl) (h : (impl_size_byte (real Tryz.prog R) x0 : World → Prop) w) :
    Calls Tryz.prog n_impl_size_byte [(.slice x0.a x0.n x0.c)].toArray w fun e w' => ∃ v, e = .returned v ∧ R v w' := fT_sound mixed ⟨[], [], [], []⟩ (by rw [impl_size_byte_eq]; exact h)

def spec_l07Drawn (C : Comb) (x0 : Addr) (x1 : Int) : C.St :=
 C.new ty_impl_Book (.agg (#[(.slice none 0 0), (.slice none 0 0)])) fun b4 =>
 C.pur (Instr.build ty_impl_Book #[]) .agg fun y15 =>
 C.new ty_impl_Book (.agg (#[(.slice none 0 0), (.slice none 0 0)])) fun b5 =>
 C.st 2 (Addr.mk b5 0 none) (.agg y15) <|
 C.sem (Instr.buildSlice ty_sl_impl_Key 0 #[]) .slice fun y16 =>
 C.call n_ptr_spec_l00Src_pick [(.pointer (some x0)), (.int .i64 (IntKind.wrap .i64 (x1 + 1)))] [(.int .i64)] fun r20 =>
 C.loop (TL [.slice, (.int .i64)]) (embL [.slice, (.int .i64)]) [(.slice y16.a y16.n y16.c), (.int .i64 r20)] fun s6 ct6 => C.any fun _ =>
 cond (decide (s6.2 > 0)) (
 C.sem (Instr.buildSlice ty_sl_impl_Key 0 #[]) .slice fun y25 =>
 C.call n_spec_l07Map [(.pointer (some x0))] [.slice] fun r27 =>
 C.join (TL [.slice, .slice]) (embL [.slice, .slice]) (fun s27 => C.any fun _ =>
 C.sem (Instr.buildSlice ty_sl_string 3 #[(0, (.string (⟨#[]⟩ : ByteArray))), (1, (.string (⟨#[97]⟩ : ByteArray))), (2, (.string (⟨#[110, 111, 116, 101]⟩ : ByteArray)))]) .slice fun y76 =>
 C.call n_ptr_spec_l00Src_text [(.pointer (some x0)), (.slice y76.a y76.n y76.c)] [.str] fun r77 =>
 C.call n_spec_l07Commit [(.pointer (some (Addr.mk b5 0 none))), (.slice s27.1.a s27.1.n s27.1.c), (.slice s27.2.a s27.2.n s27.2.c), (.string r77)] [.agg, .agg, (.int .i64)] fun r78 =>
 C.new ty_impl_Book (.agg (#[(.slice none 0 0), (.slice none 0 0)])) fun b12 =>
 C.new ty_impl_Key (.agg (Array.replicate 32 (.int .u8 0))) fun b13 =>
 C.st 2 (Addr.mk b12 0 none) (.agg r78.1) <|
 C.st 32 (Addr.mk b13 0 none) (.agg r78.2.1) <|
 cond (r78.2.2 == 0) (
 C.ld .agg 2 (Addr.mk b12 0 none) fun v84 =>
 C.st 2 (Addr.mk b5 0 none) (.agg v84) <|
 C.ld .agg 32 (Addr.mk b13 0 none) fun v86 =>
 C.sem (Instr.buildSlice ty_sl_impl_Key 1 #[(0, (.agg v86))]) .slice fun y87 =>
 C.sem (Builtin.append_ #[ty_sl_impl_Key, ty_sl_impl_Key] ty_sl_impl_Key #[(.slice s6.1.a s6.1.n s6.1.c), (.slice y87.a y87.n y87.c)]) .slice fun y88 =>
 ct6 [(.slice y88.a y88.n y88.c), (.int .i64 (IntKind.wrap .i64 (s6.2 - 1)))]
 ) (
 ct6 [(.slice s6.1.a s6.1.n s6.1.c), (.int .i64 (IntKind.wrap .i64 (s6.2 - 1)))]
 )
 ) fun jt =>
 C.call n_ptr_spec_l00Src_pick [(.pointer (some x0)), (.int .i64 3)] [(.int .i64)] fun r29 =>
 C.loop (TL [.slice, .slice, (.int .i64)]) (embL [.slice, .slice, (.int .i64)]) [(.slice y25.a y25.n y25.c), (.slice r27.a r27.n r27.c), (.int .i64 r29)] fun s10 ct10 => C.any fun _ =>
 C.join (TL []) (embL []) (fun s11 => C.any fun _ =>
 C.call n_ptr_spec_l00Src_pick [(.pointer (some x0)), (.int .i64 (s6.1.n : Int))] [(.int .i64)] fun r42 =>
 C.ix s6.1.a s6.1.n 32 r42 fun p46 =>
 C.ld .agg 32 p46 fun v47 =>
 C.sem (Instr.buildSlice ty_sl_impl_Key 1 #[(0, (.agg v47))]) .slice fun y48 =>
 C.sem (Builtin.append_ #[ty_sl_impl_Key, ty_sl_impl_Key] ty_sl_impl_Key #[(.slice s10.1.a s10.1.n s10.1.c), (.slice y48.a y48.n y48.c)]) .slice fun y49 =>
 C.call n_ptr_spec_l00Src_one [(.pointer (some x0)), (.int .i64 2)] [.bool] fun r51 =>
 cond r51 (
 C.sem (Instr.buildSlice ty_sl_impl_Entry 0 #[]) .slice fun y52 =>
 C.ld .slice 1 ((Addr.mk b5 0 none).add 1) fun v54 =>
 C.ix v54.a v54.n 1 r42 fun p56 =>
 C.ld .slice 1 p56 fun v57 =>
 C.sem (Builtin.append_ #[ty_sl_impl_Entry, ty_sl_impl_Entry] ty_sl_impl_Entry #[(.slice y52.a y52.n y52.c), (.slice v57.a v57.n v57.c)]) .slice fun y58 =>
 cond (decide ((y58.n : Int) > 0)) (
 C.call n_ptr_spec_l00Src_pick [(.pointer (some x0)), (.int .i64 (y58.n : Int))] [(.int .i64)] fun r66 =>
 C.sem (Instr.buildSlice ty_sl_string 2 #[(0, (.string (⟨#[52]⟩ : ByteArray))), (1, (.string (⟨#[53]⟩ : ByteArray)))]) .slice fun y68 =>
 C.call n_ptr_spec_l00Src_text [(.pointer (some x0)), (.slice y68.a y68.n y68.c)] [.str] fun r69 =>
 C.ix y58.a y58.n 2 r66 fun p70 =>
 C.st 1 (p70.add 1) (.string r69) <|
 ct10 [(.slice y49.a y49.n y49.c), (.slice y58.a y58.n y58.c), (.int .i64 (IntKind.wrap .i64 (s10.2.2 - 1)))]
 ) (
 ct10 [(.slice y49.a y49.n y49.c), (.slice y58.a y58.n y58.c), (.int .i64 (IntKind.wrap .i64 (s10.2.2 - 1)))]
 )
 ) (
 ct10 [(.slice y49.a y49.n y49.c), (.slice s10.2.1.a s10.2.1.n s10.2.1.c), (.int .i64 (IntKind.wrap .i64 (s10.2.2 - 1)))]
 )
 ) fun jt1 =>
 cond (decide (s10.2.2 > 0)) (
 cond (decide ((s6.1.n : Int) > 0)) (
 jt1 []
 ) (
 jt [(.slice s10.1.a s10.1.n s10.1.c), (.slice s10.2.1.a s10.2.1.n s10.2.1.c)]
 )
 ) (
 jt [(.slice s10.1.a s10.1.n s10.1.c), (.slice s10.2.1.a s10.2.1.n s10.2.1.c)]
 )
 ) (
 C.ld .agg 2 (Addr.mk b5 0 none) fun v89 =>
 C.st 2 (Addr.mk b4 0 none) (.agg v89) <|
 C.ld .agg 2 (Addr.mk b4 0 none) fun z38 =>
 C.ret (.agg z38)
 )
theorem spec_l07Drawn_eq (C : Comb) (x0 : Addr) (x1 : Int) : fT C Tryz.prog ⟨[(4, [(6, .slice), (7, (.int .i64))]), (9, [(8, .slice), (9, .slice), (10, (.int .i64))])], [(108, []), (29, [(8, .slice), (9, .slice)])], [], []⟩ n_spec_l07Drawn [(.pointer (some x0)), (.int .i64 x1)] = spec_l07Drawn C x0 x1 := by kernel_rfl
theorem spec_l07Drawn_calls {R : Value → World → Prop} {w : World} (x0 : Addr) (x1 : Int) (h : (spec_l07Drawn (real Tryz.prog R) x0 x1 : World → Prop) w) :
    Calls Tryz.prog n_spec_l07Drawn [(.pointer (some x0)), (.int .i64 x1)].toArray w fun e w' => ∃ v, e = .returned v ∧ R v w' := fT_sound mixed ⟨[(4, [(6, .slice), (7, (.int .i64))]), (9, [(8, .slice), (9, .slice), (10, (.int .i64))])], [(108, []), (29, [(8, .slice), (9, .slice)])], [], []⟩ (by rw [spec_l07Drawn_eq]; exact h)

def impl_open (C : Comb) (x0 : Array Value) (x1 : Sl) : C.St :=
 C.new ty_impl_Book (.agg x0) fun b2 =>
 C.ld .agg 2 (Addr.mk b2 0 none) fun v13 =>
 C.call n_impl_newLedger [(.agg v13)] [.optr, .bool] fun r14 =>
 cond (!r14.2) (
 C.ret (.tuple #[(.pointer none), (.int .i64 1)])
 ) (
 C.loop (TL [(.int .i64)]) (embL [(.int .i64)]) [(.int .i64 0)] fun s4 ct4 => C.any fun _ =>
 cond (decide (s4 < (x1.n : Int))) (
 C.ix x1.a x1.n 32 s4 fun p23 =>
 C.ld .agg 32 p23 fun v24 =>
 C.new ty_impl_Key (.agg (Array.replicate 32 (.int .u8 0))) fun b9 =>
 C.st 32 (Addr.mk b9 0 none) (.agg v24) <|
 C.ld .agg 32 (Addr.mk b9 0 none) fun v27 =>
 C.call n_ptr_impl_ledger_find [(.pointer r14.1), (.agg v27)] [(.int .i64), .bool] fun r28 =>
 cond (!r28.2) (
 C.ret (.tuple #[(.pointer none), (.int .i64 6)])
 ) (
 ct4 [(.int .i64 (IntKind.wrap .i64 (s4 + 1)))]
 )
 ) (
 C.ret (.tuple #[(.pointer r14.1), (.int .i64 0)])
 )
 )
theorem impl_open_eq (C : Comb) (x0 : Array Value) (x1 : Sl) : fT C Tryz.prog ⟨[(5, [(21, (.int .i64))])], [], [], []⟩ n_impl_open [(.agg x0), (.slice x1.a x1.n x1.c)] = impl_open C x0 x1 := by kernel_rfl
theorem impl_open_calls {R : Value → World → Prop} {w : World} (x0 : Array Value) (x1 : Sl) (h : (impl_open (real Tryz.prog R) x0 x1 : World → Prop) w) :
    Calls Tryz.prog n_impl_open [(.agg x0), (.slice x1.a x1.n x1.c)].toArray w fun e w' => ∃ v, e = .returned v ∧ R v w' := fT_sound mixed ⟨[(5, [(21, (.int .i64))])], [], [], []⟩ (by rw [impl_open_eq]; exact h)

def impl_sorted (C : Comb) (x0 : Sl) : C.St :=
 C.call n_slices_Clone_sl_impl_Key_impl_Key [(.slice x0.a x0.n x0.c)] [.slice] fun r5 =>
 C.call n_slices_SortFunc_sl_impl_Key_impl_Key [(.slice r5.a r5.n r5.c), (.func (.func n_impl_compareKeys) #[] #[])] [] fun r7 =>
 C.call n_slices_Compact_sl_impl_Key_impl_Key [(.slice r5.a r5.n r5.c)] [.slice] fun r9 =>
 C.ret (.slice r9.a r9.n r9.c)
theorem impl_sorted_eq (C : Comb) (x0 : Sl) : fT C Tryz.prog ⟨[], [], [], []⟩ n_impl_sorted [(.slice x0.a x0.n x0.c)] = impl_sorted C x0 := by kernel_rfl
theorem impl_sorted_calls {R : Value → World → Prop} {w : World} (x0 : Sl) (h : (impl_sorted (real Tryz.prog R) x0 : World → Prop) w) :
    Calls Tryz.prog n_impl_sorted [(.slice x0.a x0.n x0.c)].toArray w fun e w' => ∃ v, e = .returned v ∧ R v w' := fT_sound mixed ⟨[], [], [], []⟩ (by rw [impl_sorted_eq]; exact h)

def slices_DeleteFunc_sl_impl_Key_impl_Key (C : Comb) (x0 : Sl) (x1 : Value) : C.St :=
 C.call n_slices_IndexFunc_sl_impl_Key_impl_Key [(.slice x0.a x0.n x0.c), x1] [(.int .i64)] fun r10 =>
 cond (r10 == (-1)) (
 C.ret (.slice x0.a x0.n x0.c)
 ) (
 C.loop (TL [(.int .i64), (.int .i64)]) (embL [(.int .i64), (.int .i64)]) [(.int .i64 r10), (.int .i64 (IntKind.wrap .i64 (r10 + 1)))] fun s2 ct2 => C.any fun _ =>
 cond (decide (s2.2 < (x0.n : Int))) (
 C.ix x0.a x0.n 32 s2.2 fun p24 =>
 C.ld .agg 32 p24 fun v25 =>
 C.new ty_impl_Key (.agg (Array.replicate 32 (.int .u8 0))) fun b7 =>
 C.st 32 (Addr.mk b7 0 none) (.agg v25) <|
 C.ld .agg 32 (Addr.mk b7 0 none) fun v27 =>
 C.callV x1 [(.agg v27)] [.bool] fun r28 =>
 cond (!r28) (
 C.ld .agg 32 (Addr.mk b7 0 none) fun v32 =>
 C.ix x0.a x0.n 32 s2.1 fun p33 =>
 C.st 32 p33 (.agg v32) <|
 ct2 [(.int .i64 (IntKind.wrap .i64 (s2.1 + 1))), (.int .i64 (IntKind.wrap .i64 (s2.2 + 1)))]
 ) (
 ct2 [(.int .i64 s2.1), (.int .i64 (IntKind.wrap .i64 (s2.2 + 1)))]
 )
 ) (
 C.sl x0.a x0.n x0.c 32 (some s2.1) none none fun y38 =>
 C.sem (Builtin.clear_ #[ty_sl_impl_Key] ty_x #[(.slice y38.a y38.n y38.c)]) .val fun yq11 =>
 C.sl x0.a x0.n x0.c 32 none (some s2.1) none fun y41 =>
 C.ret (.slice y41.a y41.n y41.c)
 )
 )
theorem slices_DeleteFunc_sl_impl_Key_impl_Key_eq (C : Comb) (x0 : Sl) (x1 : Value) : fT C Tryz.prog ⟨[(5, [(5, (.int .i64)), (6, (.int .i64))])], [], [], []⟩ n_slices_DeleteFunc_sl_impl_Key_impl_Key [(.slice x0.a x0.n x0.c), x1] = slices_DeleteFunc_sl_impl_Key_impl_Key C x0 x1 := by kernel_rfl
theorem slices_DeleteFunc_sl_impl_Key_impl_Key_calls {R : Value → World → Prop} {w : World} (x0 : Sl) (x1 : Value) (h : (slices_DeleteFunc_sl_impl_Key_impl_Key (real Tryz.prog R) x0 x1 : World → Prop) w) :
    Calls Tryz.prog n_slices_DeleteFunc_sl_impl_Key_impl_Key [(.slice x0.a x0.n x0.c), x1].toArray w fun e w' => ∃ v, e = .returned v ∧ R v w' := fT_sound mixed ⟨[(5, [(5, (.int .i64)), (6, (.int .i64))])], [], [], []⟩ (by rw [slices_DeleteFunc_sl_impl_Key_impl_Key_eq]; exact h)

def slices_Clone_sl_impl_Key_impl_Key (C : Comb) (x0 : Sl) : C.St :=
 C.pur (eqB .eql ty_sl_impl_Key (.tmp 3) (.const (.slice none 0 0)) (.slice x0.a x0.n x0.c) (.slice none 0 0)) .bool fun y4 =>
 cond y4 (
 C.ret (.slice none 0 0)
 ) (
 C.sem (Instr.buildSlice ty_sl_impl_Key 0 #[]) .slice fun y5 =>
 C.sem (Builtin.append_ #[ty_sl_impl_Key, ty_sl_impl_Key] ty_sl_impl_Key #[(.slice y5.a y5.n y5.c), (.slice x0.a x0.n x0.c)]) .slice fun y7 =>
 C.ret (.slice y7.a y7.n y7.c)
 )
theorem slices_Clone_sl_impl_Key_impl_Key_eq (C : Comb) (x0 : Sl) : fT C Tryz.prog ⟨[], [], [], []⟩ n_slices_Clone_sl_impl_Key_impl_Key [(.slice x0.a x0.n x0.c)] = slices_Clone_sl_impl_Key_impl_Key C x0 := by kernel_rfl
theorem slices_Clone_sl_impl_Key_impl_Key_calls {R : Value → World → Prop} {w : World} (x0 : Sl) (h : (slices_Clone_sl_impl_Key_impl_Key (real Tryz.prog R) x0 : World → Prop) w) :
    Calls Tryz.prog n_slices_Clone_sl_impl_Key_impl_Key [(.slice x0.a x0.n x0.c)].toArray w fun e w' => ∃ v, e = .returned v ∧ R v w' := fT_sound mixed ⟨[], [], [], []⟩ (by rw [slices_Clone_sl_impl_Key_impl_Key_eq]; exact h)

def impl_HeadsOf_1 (C : Comb) (x0 : Array Value) (x1 : Addr) : C.St :=
 C.new ty_impl_Key (.agg x0) fun b2 =>
 C.ld .slice 1 (x1.add 0) fun v5 =>
 C.call n_slices_ContainsFunc_sl_impl_Commit_impl_Commit [(.slice v5.a v5.n v5.c), (.func (.func n_impl_HeadsOf_1_1) #[] #[(.pointer (some (Addr.mk b2 0 none)))])] [.bool] fun r7 =>
 C.ret (.bool r7)
theorem impl_HeadsOf_1_eq (C : Comb) (x0 : Array Value) (x1 : Addr) : fT C Tryz.prog ⟨[], [], [], []⟩ n_impl_HeadsOf_1 [(.agg x0), (.pointer (some x1))] = impl_HeadsOf_1 C x0 x1 := by kernel_rfl
theorem impl_HeadsOf_1_calls {R : Value → World → Prop} {w : World} (x0 : Array Value) (x1 : Addr) (h : (impl_HeadsOf_1 (real Tryz.prog R) x0 x1 : World → Prop) w) :
    Calls Tryz.prog n_impl_HeadsOf_1 [(.agg x0), (.pointer (some x1))].toArray w fun e w' => ∃ v, e = .returned v ∧ R v w' := fT_sound mixed ⟨[], [], [], []⟩ (by rw [impl_HeadsOf_1_eq]; exact h)

def slices_ContainsFunc_sl_impl_Commit_impl_Commit (C : Comb) (x0 : Sl) (x1 : Value) : C.St :=
 C.call n_slices_IndexFunc_sl_impl_Commit_impl_Commit [(.slice x0.a x0.n x0.c), x1] [(.int .i64)] fun r7 =>
 C.ret (.bool (decide (r7 ≥ 0)))
theorem slices_ContainsFunc_sl_impl_Commit_impl_Commit_eq (C : Comb) (x0 : Sl) (x1 : Value) : fT C Tryz.prog ⟨[], [], [], []⟩ n_slices_ContainsFunc_sl_impl_Commit_impl_Commit [(.slice x0.a x0.n x0.c), x1] = slices_ContainsFunc_sl_impl_Commit_impl_Commit C x0 x1 := by kernel_rfl
theorem slices_ContainsFunc_sl_impl_Commit_impl_Commit_calls {R : Value → World → Prop} {w : World} (x0 : Sl) (x1 : Value) (h : (slices_ContainsFunc_sl_impl_Commit_impl_Commit (real Tryz.prog R) x0 x1 : World → Prop) w) :
    Calls Tryz.prog n_slices_ContainsFunc_sl_impl_Commit_impl_Commit [(.slice x0.a x0.n x0.c), x1].toArray w fun e w' => ∃ v, e = .returned v ∧ R v w' := fT_sound mixed ⟨[], [], [], []⟩ (by rw [slices_ContainsFunc_sl_impl_Commit_impl_Commit_eq]; exact h)

def impl_HeadsOf_1_1 (C : Comb) (x0 : Array Value) (x1 : Addr) : C.St :=
 C.new ty_impl_Commit (.agg x0) fun b2 =>
 C.ld .slice 1 ((Addr.mk b2 0 none).add 32) fun v5 =>
 C.ld .agg 32 x1 fun v6 =>
 C.call n_slices_Contains_sl_impl_Key_impl_Key [(.slice v5.a v5.n v5.c), (.agg v6)] [.bool] fun r7 =>
 C.ret (.bool r7)
theorem impl_HeadsOf_1_1_eq (C : Comb) (x0 : Array Value) (x1 : Addr) : fT C Tryz.prog ⟨[], [], [], []⟩ n_impl_HeadsOf_1_1 [(.agg x0), (.pointer (some x1))] = impl_HeadsOf_1_1 C x0 x1 := by kernel_rfl
theorem impl_HeadsOf_1_1_calls {R : Value → World → Prop} {w : World} (x0 : Array Value) (x1 : Addr) (h : (impl_HeadsOf_1_1 (real Tryz.prog R) x0 x1 : World → Prop) w) :
    Calls Tryz.prog n_impl_HeadsOf_1_1 [(.agg x0), (.pointer (some x1))].toArray w fun e w' => ∃ v, e = .returned v ∧ R v w' := fT_sound mixed ⟨[], [], [], []⟩ (by rw [impl_HeadsOf_1_1_eq]; exact h)

def slices_Contains_sl_impl_Key_impl_Key (C : Comb) (x0 : Sl) (x1 : Array Value) : C.St :=
 C.new ty_impl_Key (.agg x1) fun b3 =>
 C.ld .agg 32 (Addr.mk b3 0 none) fun v6 =>
 C.call n_slices_Index_sl_impl_Key_impl_Key [(.slice x0.a x0.n x0.c), (.agg v6)] [(.int .i64)] fun r7 =>
 C.ret (.bool (decide (r7 ≥ 0)))
theorem slices_Contains_sl_impl_Key_impl_Key_eq (C : Comb) (x0 : Sl) (x1 : Array Value) : fT C Tryz.prog ⟨[], [], [], []⟩ n_slices_Contains_sl_impl_Key_impl_Key [(.slice x0.a x0.n x0.c), (.agg x1)] = slices_Contains_sl_impl_Key_impl_Key C x0 x1 := by kernel_rfl
theorem slices_Contains_sl_impl_Key_impl_Key_calls {R : Value → World → Prop} {w : World} (x0 : Sl) (x1 : Array Value) (h : (slices_Contains_sl_impl_Key_impl_Key (real Tryz.prog R) x0 x1 : World → Prop) w) :
    Calls Tryz.prog n_slices_Contains_sl_impl_Key_impl_Key [(.slice x0.a x0.n x0.c), (.agg x1)].toArray w fun e w' => ∃ v, e = .returned v ∧ R v w' := fT_sound mixed ⟨[], [], [], []⟩ (by rw [slices_Contains_sl_impl_Key_impl_Key_eq]; exact h)

def spec_l07Ok (C : Comb) (x0 : Addr) : C.St :=
 C.join (TL []) (embL []) (fun s5 => C.any fun _ =>
 C.loop (TL [(.int .i64)]) (embL [(.int .i64)]) [(.int .i64 1)] fun s6 ct6 => C.any fun _ =>
 C.ld .slice 1 (x0.add 32) fun v30 =>
 cond (decide (s6 < (v30.n : Int))) (
 C.draw <|
 C.ld .slice 1 (x0.add 32) fun v38 =>
 C.ix v38.a v38.n 32 (IntKind.wrap .i64 (s6 - 1)) fun p41 =>
 C.ld .agg 32 p41 fun v42 =>
 C.ld .slice 1 (x0.add 32) fun v46 =>
 C.ix v46.a v46.n 32 s6 fun p48 =>
 C.ld .agg 32 p48 fun v49 =>
 C.call n_spec_l01Compare [(.agg v42), (.agg v49)] [(.int .i64)] fun r50 =>
 C.chk [⟨11, 1, (x0.add 32), .slice, v46⟩, ⟨3, 1, (x0.add 32), .slice, v38⟩] <|
 cond (decide (r50 ≥ 0)) (
 C.ret (.bool false)
 ) (
 ct6 [(.int .i64 (IntKind.wrap .i64 (s6 + 1)))]
 )
 ) (
 C.ret (.bool true)
 )
 ) fun jt =>
 C.ld .slice 1 (x0.add 32) fun v7 =>
 cond (decide ((v7.n : Int) > 3)) (
 C.ret (.bool false)
 ) (
 C.ld (.int .i64) 1 (x0.add 33) fun v14 =>
 C.call n_spec_l00In [(.int .i64 v14), (.int .i64 0), (.int .i64 40)] [.bool] fun r15 =>
 cond (!r15) (
 C.ret (.bool false)
 ) (
 C.ld .str 1 (x0.add 34) fun v22 =>
 cond (decide ((v22.size : Int) > 64)) (
 C.ret (.bool false)
 ) (
 jt []
 )
 )
 )
theorem spec_l07Ok_eq (C : Comb) (x0 : Addr) : fT C Tryz.prog ⟨[(4, [(3, (.int .i64))])], [(75, [])], [6], []⟩ n_spec_l07Ok [(.pointer (some x0))] = spec_l07Ok C x0 := by kernel_rfl
theorem spec_l07Ok_calls {R : Value → World → Prop} {w : World} (x0 : Addr) (h : (spec_l07Ok (real Tryz.prog R) x0 : World → Prop) w) :
    Calls Tryz.prog n_spec_l07Ok [(.pointer (some x0))].toArray w fun e w' => ∃ v, e = .returned v ∧ R v w' := fT_sound mixed ⟨[(4, [(3, (.int .i64))])], [(75, [])], [6], []⟩ (by rw [spec_l07Ok_eq]; exact h)

def spec_l07Key (C : Comb) (x0 : Addr) : C.St :=
 C.new ty_impl_Key (.agg (Array.replicate 32 (.int .u8 0))) fun b2 =>
 C.call n_spec_l07Data [(.pointer (some x0))] [.slice] fun r4 =>
 C.call n_spec_l01Hash [(.int .u8 7), (.slice r4.a r4.n r4.c)] [.agg] fun r5 =>
 C.st 32 (Addr.mk b2 0 none) (.agg r5) <|
 C.ld .agg 32 (Addr.mk b2 0 none) fun z4 =>
 C.ret (.agg z4)
theorem spec_l07Key_eq (C : Comb) (x0 : Addr) : fT C Tryz.prog ⟨[], [], [], []⟩ n_spec_l07Key [(.pointer (some x0))] = spec_l07Key C x0 := by kernel_rfl
theorem spec_l07Key_calls {R : Value → World → Prop} {w : World} (x0 : Addr) (h : (spec_l07Key (real Tryz.prog R) x0 : World → Prop) w) :
    Calls Tryz.prog n_spec_l07Key [(.pointer (some x0))].toArray w fun e w' => ∃ v, e = .returned v ∧ R v w' := fT_sound mixed ⟨[], [], [], []⟩ (by rw [spec_l07Key_eq]; exact h)

def ptr_impl_ledger_ancestors (C : Comb) (x0 : Addr) (x1 : Array Value) : C.St :=
 C.new ty_impl_Key (.agg x1) fun b3 =>
 C.ld .agg 32 (Addr.mk b3 0 none) fun v9 =>
 C.sem (Instr.buildSlice ty_sl_impl_Key 1 #[(0, (.agg v9))]) .slice fun y10 =>
 C.loop (TL [.slice, (.int .i64)]) (embL [.slice, (.int .i64)]) [(.slice y10.a y10.n y10.c), (.int .i64 0)] fun s4 ct4 => C.any fun _ =>
 cond (decide (s4.2 < (s4.1.n : Int))) (
 C.join (TL [.slice, (.int .i64), (.int .i64)]) (embL [.slice, (.int .i64), (.int .i64)]) (fun s11 => C.any fun _ =>
 C.loop (TL [.slice, (.int .i64)]) (embL [.slice, (.int .i64)]) [(.slice s4.1.a s4.1.n s4.1.c), (.int .i64 s11.2.2)] fun s12 ct12 => C.any fun _ =>
 cond (decide (s12.2 < s11.2.1)) (
 C.ix s11.1.a s11.1.n 32 s12.2 fun p34 =>
 C.ld .agg 32 p34 fun v35 =>
 C.new ty_impl_Key (.agg (Array.replicate 32 (.int .u8 0))) fun b8 =>
 C.st 32 (Addr.mk b8 0 none) (.agg v35) <|
 C.ld .agg 32 (Addr.mk b8 0 none) fun v37 =>
 C.call n_slices_Contains_sl_impl_Key_impl_Key [(.slice s12.1.a s12.1.n s12.1.c), (.agg v37)] [.bool] fun r38 =>
 cond (!r38) (
 C.ld .agg 32 (Addr.mk b8 0 none) fun v41 =>
 C.sem (Instr.buildSlice ty_sl_impl_Key 1 #[(0, (.agg v41))]) .slice fun y42 =>
 C.sem (Builtin.append_ #[ty_sl_impl_Key, ty_sl_impl_Key] ty_sl_impl_Key #[(.slice s12.1.a s12.1.n s12.1.c), (.slice y42.a y42.n y42.c)]) .slice fun y43 =>
 ct12 [(.slice y43.a y43.n y43.c), (.int .i64 (IntKind.wrap .i64 (s12.2 + 1)))]
 ) (
 ct12 [(.slice s12.1.a s12.1.n s12.1.c), (.int .i64 (IntKind.wrap .i64 (s12.2 + 1)))]
 )
 ) (
 ct4 [(.slice s12.1.a s12.1.n s12.1.c), (.int .i64 (IntKind.wrap .i64 (s4.2 + 1)))]
 )
 ) fun jt =>
 C.draw <|
 C.ld .slice 1 ((x0.add 0).add 0) fun v21 =>
 C.ix s4.1.a s4.1.n 32 s4.2 fun p25 =>
 C.ld .agg 32 p25 fun v26 =>
 C.call n_ptr_impl_ledger_at [(.pointer (some x0)), (.agg v26)] [(.int .i64)] fun r27 =>
 C.chk [⟨4, 1, ((x0.add 0).add 0), .slice, v21⟩] <|
 C.ix v21.a v21.n 35 r27 fun p28 =>
 C.ld .slice 1 (p28.add 32) fun v30 =>
 jt [(.slice v30.a v30.n v30.c), (.int .i64 (v30.n : Int)), (.int .i64 0)]
 ) (
 C.call n_impl_sorted [(.slice s4.1.a s4.1.n s4.1.c)] [.slice] fun r46 =>
 C.ret (.slice r46.a r46.n r46.c)
 )
theorem ptr_impl_ledger_ancestors_eq (C : Comb) (x0 : Addr) (x1 : Array Value) : fT C Tryz.prog ⟨[(3, [(5, .slice), (6, (.int .i64))]), (6, [(5, .slice), (32, (.int .i64))])], [(16, [(30, .slice), (31, (.int .i64)), (32, (.int .i64))])], [5], []⟩ n_ptr_impl_ledger_ancestors [(.pointer (some x0)), (.agg x1)] = ptr_impl_ledger_ancestors C x0 x1 := by kernel_rfl
theorem ptr_impl_ledger_ancestors_calls {R : Value → World → Prop} {w : World} (x0 : Addr) (x1 : Array Value) (h : (ptr_impl_ledger_ancestors (real Tryz.prog R) x0 x1 : World → Prop) w) :
    Calls Tryz.prog n_ptr_impl_ledger_ancestors [(.pointer (some x0)), (.agg x1)].toArray w fun e w' => ∃ v, e = .returned v ∧ R v w' := fT_sound mixed ⟨[(3, [(5, .slice), (6, (.int .i64))]), (6, [(5, .slice), (32, (.int .i64))])], [(16, [(30, .slice), (31, (.int .i64)), (32, (.int .i64))])], [5], []⟩ (by rw [ptr_impl_ledger_ancestors_eq]; exact h)

def ptr_impl_ledger_bases (C : Comb) (x0 : Addr) (x1 : Array Value) (x2 : Array Value) : C.St :=
 C.new ty_ptr_impl_ledger (.pointer (some x0)) fun b3 =>
 C.new ty_impl_Key (.agg x1) fun b4 =>
 C.new ty_impl_Key (.agg x2) fun b5 =>
 C.ld .ptr 1 (Addr.mk b3 0 none) fun v9 =>
 C.ld .agg 32 (Addr.mk b5 0 none) fun v10 =>
 C.call n_ptr_impl_ledger_ancestors [(.pointer (some v9)), (.agg v10)] [.slice] fun r11 =>
 C.new ty_sl_impl_Key (.slice none 0 0) fun b7 =>
 C.st 1 (Addr.mk b7 0 none) (.slice r11.a r11.n r11.c) <|
 C.ld .ptr 1 (Addr.mk b3 0 none) fun v12 =>
 C.ld .agg 32 (Addr.mk b4 0 none) fun v13 =>
 C.call n_ptr_impl_ledger_ancestors [(.pointer (some v12)), (.agg v13)] [.slice] fun r14 =>
 C.call n_slices_DeleteFunc_sl_impl_Key_impl_Key [(.slice r14.a r14.n r14.c), (.func (.func n_ptr_impl_ledger_bases_1) #[] #[(.pointer (some (Addr.mk b7 0 none)))])] [.slice] fun r16 =>
 C.new ty_sl_impl_Key (.slice none 0 0) fun b8 =>
 C.st 1 (Addr.mk b8 0 none) (.slice r16.a r16.n r16.c) <|
 C.ld .slice 1 (Addr.mk b8 0 none) fun v17 =>
 C.call n_slices_Clone_sl_impl_Key_impl_Key [(.slice v17.a v17.n v17.c)] [.slice] fun r18 =>
 C.call n_slices_DeleteFunc_sl_impl_Key_impl_Key [(.slice r18.a r18.n r18.c), (.func (.func n_ptr_impl_ledger_bases_2) #[] #[(.pointer (some (Addr.mk b8 0 none))), (.pointer (some (Addr.mk b3 0 none)))])] [.slice] fun r20 =>
 C.ret (.slice r20.a r20.n r20.c)
theorem ptr_impl_ledger_bases_eq (C : Comb) (x0 : Addr) (x1 : Array Value) (x2 : Array Value) : fT C Tryz.prog ⟨[], [], [], []⟩ n_ptr_impl_ledger_bases [(.pointer (some x0)), (.agg x1), (.agg x2)] = ptr_impl_ledger_bases C x0 x1 x2 := by kernel_rfl
theorem ptr_impl_ledger_bases_calls {R : Value → World → Prop} {w : World} (x0 : Addr) (x1 : Array Value) (x2 : Array Value) (h : (ptr_impl_ledger_bases (real Tryz.prog R) x0 x1 x2 : World → Prop) w) :
    Calls Tryz.prog n_ptr_impl_ledger_bases [(.pointer (some x0)), (.agg x1), (.agg x2)].toArray w fun e w' => ∃ v, e = .returned v ∧ R v w' := fT_sound mixed ⟨[], [], [], []⟩ (by rw [ptr_impl_ledger_bases_eq]; exact h)

def ptr_impl_ledger_isAncestor (C : Comb) (x0 : Addr) (x1 : Array Value) (x2 : Array Value) : C.St :=
 C.new ty_impl_Key (.agg x1) fun b4 =>
 C.new ty_impl_Key (.agg x2) fun b5 =>
 C.draw <|
 C.ld .agg 32 (Addr.mk b5 0 none) fun v8 =>
 C.ld .agg 32 (Addr.mk b4 0 none) fun v10 =>
 C.call n_ptr_impl_ledger_ancestors [(.pointer (some x0)), (.agg v8)] [.slice] fun r9 =>
 C.chk [⟨3, 32, (Addr.mk b4 0 none), .agg, v10⟩] <|
 C.call n_slices_Contains_sl_impl_Key_impl_Key [(.slice r9.a r9.n r9.c), (.agg v10)] [.bool] fun r11 =>
 C.ret (.bool r11)
theorem ptr_impl_ledger_isAncestor_eq (C : Comb) (x0 : Addr) (x1 : Array Value) (x2 : Array Value) : fT C Tryz.prog ⟨[], [], [1], []⟩ n_ptr_impl_ledger_isAncestor [(.pointer (some x0)), (.agg x1), (.agg x2)] = ptr_impl_ledger_isAncestor C x0 x1 x2 := by kernel_rfl
theorem ptr_impl_ledger_isAncestor_calls {R : Value → World → Prop} {w : World} (x0 : Addr) (x1 : Array Value) (x2 : Array Value) (h : (ptr_impl_ledger_isAncestor (real Tryz.prog R) x0 x1 x2 : World → Prop) w) :
    Calls Tryz.prog n_ptr_impl_ledger_isAncestor [(.pointer (some x0)), (.agg x1), (.agg x2)].toArray w fun e w' => ∃ v, e = .returned v ∧ R v w' := fT_sound mixed ⟨[], [], [1], []⟩ (by rw [ptr_impl_ledger_isAncestor_eq]; exact h)

def slices_CompareFunc_sl_impl_Key_sl_impl_Key_impl_Key_impl_Key (C : Comb) (x0 : Sl) (x1 : Sl) (x2 : Value) : C.St :=
 C.loop (TL [(.int .i64)]) (embL [(.int .i64)]) [(.int .i64 0)] fun s1 ct1 => C.any fun _ =>
 cond (decide (s1 < (x0.n : Int))) (
 C.ix x0.a x0.n 32 s1 fun p16 =>
 C.ld .agg 32 p16 fun v17 =>
 C.new ty_impl_Key (.agg (Array.replicate 32 (.int .u8 0))) fun b8 =>
 C.st 32 (Addr.mk b8 0 none) (.agg v17) <|
 cond (decide (s1 ≥ (x1.n : Int))) (
 C.ret (.int .i64 1)
 ) (
 C.ix x1.a x1.n 32 s1 fun p24 =>
 C.ld .agg 32 p24 fun v25 =>
 C.new ty_impl_Key (.agg (Array.replicate 32 (.int .u8 0))) fun b9 =>
 C.st 32 (Addr.mk b9 0 none) (.agg v25) <|
 C.ld .agg 32 (Addr.mk b8 0 none) fun v27 =>
 C.ld .agg 32 (Addr.mk b9 0 none) fun v28 =>
 C.callV x2 [(.agg v27), (.agg v28)] [(.int .i64)] fun r29 =>
 cond (r29 != 0) (
 C.ret (.int .i64 r29)
 ) (
 ct1 [(.int .i64 (IntKind.wrap .i64 (s1 + 1)))]
 )
 )
 ) (
 cond (decide ((x0.n : Int) < (x1.n : Int))) (
 C.ret (.int .i64 (-1))
 ) (
 C.ret (.int .i64 0)
 )
 )
theorem slices_CompareFunc_sl_impl_Key_sl_impl_Key_impl_Key_impl_Key_eq (C : Comb) (x0 : Sl) (x1 : Sl) (x2 : Value) : fT C Tryz.prog ⟨[(2, [(13, (.int .i64))])], [], [], []⟩ n_slices_CompareFunc_sl_impl_Key_sl_impl_Key_impl_Key_impl_Key [(.slice x0.a x0.n x0.c), (.slice x1.a x1.n x1.c), x2] = slices_CompareFunc_sl_impl_Key_sl_impl_Key_impl_Key_impl_Key C x0 x1 x2 := by kernel_rfl
theorem slices_CompareFunc_sl_impl_Key_sl_impl_Key_impl_Key_impl_Key_calls {R : Value → World → Prop} {w : World} (x0 : Sl) (x1 : Sl) (x2 : Value) (h : (slices_CompareFunc_sl_impl_Key_sl_impl_Key_impl_Key_impl_Key (real Tryz.prog R) x0 x1 x2 : World → Prop) w) :
    Calls Tryz.prog n_slices_CompareFunc_sl_impl_Key_sl_impl_Key_impl_Key_impl_Key [(.slice x0.a x0.n x0.c), (.slice x1.a x1.n x1.c), x2].toArray w fun e w' => ∃ v, e = .returned v ∧ R v w' := fT_sound mixed ⟨[(2, [(13, (.int .i64))])], [], [], []⟩ (by rw [slices_CompareFunc_sl_impl_Key_sl_impl_Key_impl_Key_impl_Key_eq]; exact h)

def impl_compareKeys (C : Comb) (x0 : Array Value) (x1 : Array Value) : C.St :=
 C.new ty_impl_Key (.agg x0) fun b2 =>
 C.new ty_impl_Key (.agg x1) fun b3 =>
 C.draw <|
 C.sl (some (Addr.mk b2 0 none)) 32 32 1 none none none fun y5 =>
 C.sl (some (Addr.mk b3 0 none)) 32 32 1 none none none fun y6 =>
 C.callQ n_slices_Compare_sl_byte_byte [(.slice y5.a y5.n y5.c), (.slice y6.a y6.n y6.c)] [(.int .i64)] fun r7 =>
 C.ret (.int .i64 r7)
theorem impl_compareKeys_eq (C : Comb) (x0 : Array Value) (x1 : Array Value) : fT C Tryz.prog ⟨[], [], [], []⟩ n_impl_compareKeys [(.agg x0), (.agg x1)] = impl_compareKeys C x0 x1 := by kernel_rfl
theorem impl_compareKeys_calls {R : Value → World → Prop} {w : World} (x0 : Array Value) (x1 : Array Value) (h : (impl_compareKeys (real Tryz.prog R) x0 x1 : World → Prop) w) :
    Calls Tryz.prog n_impl_compareKeys [(.agg x0), (.agg x1)].toArray w fun e w' => ∃ v, e = .returned v ∧ R v w' := fT_sound mixed ⟨[], [], [], []⟩ (by rw [impl_compareKeys_eq]; exact h)

def spec_l03Lists (C : Comb) (x0 : Sl) (x1 : Sl) : C.St :=
 cond ((x0.n : Int) != (x1.n : Int)) (
 C.ret (.bool false)
 ) (
 C.loop (TL [(.int .i64)]) (embL [(.int .i64)]) [(.int .i64 0)] fun s1 ct1 => C.any fun _ =>
 cond (decide (s1 < (x0.n : Int))) (
 C.draw <|
 C.ix x0.a x0.n 32 s1 fun p19 =>
 C.ld .agg 32 p19 fun v20 =>
 C.ix x1.a x1.n 32 s1 fun p23 =>
 C.ld .agg 32 p23 fun v24 =>
 C.pur (eqB .neq ty_impl_Key (.tmp 20) (.tmp 24) (.agg v20) (.agg v24)) .bool fun y25 =>
 cond y25 (
 C.ret (.bool false)
 ) (
 ct1 [(.int .i64 (IntKind.wrap .i64 (s1 + 1)))]
 )
 ) (
 C.ret (.bool true)
 )
 )
theorem spec_l03Lists_eq (C : Comb) (x0 : Sl) (x1 : Sl) : fT C Tryz.prog ⟨[(4, [(5, (.int .i64))])], [], [], []⟩ n_spec_l03Lists [(.slice x0.a x0.n x0.c), (.slice x1.a x1.n x1.c)] = spec_l03Lists C x0 x1 := by kernel_rfl
theorem spec_l03Lists_calls {R : Value → World → Prop} {w : World} (x0 : Sl) (x1 : Sl) (h : (spec_l03Lists (real Tryz.prog R) x0 x1 : World → Prop) w) :
    Calls Tryz.prog n_spec_l03Lists [(.slice x0.a x0.n x0.c), (.slice x1.a x1.n x1.c)].toArray w fun e w' => ∃ v, e = .returned v ∧ R v w' := fT_sound mixed ⟨[(4, [(5, (.int .i64))])], [], [], []⟩ (by rw [spec_l03Lists_eq]; exact h)

def spec_l07At (C : Comb) (x0 : Addr) (x1 : Array Value) : C.St :=
 C.new ty_impl_Key (.agg x1) fun b3 =>
 C.call n_spec_l07Book [(.pointer (some x0))] [.bool] fun r8 =>
 cond (!r8) (
 C.ret (.tuple #[(.int .i64 0), (.int .i64 1)])
 ) (
 C.join (TL [(.int .i64)]) (embL [(.int .i64)]) (fun s6 => C.any fun _ =>
 cond (decide (s6 < 0)) (
 C.ret (.tuple #[(.int .i64 0), (.int .i64 6)])
 ) (
 C.ret (.tuple #[(.int .i64 s6), (.int .i64 0)])
 )
 ) fun jt =>
 C.draw <|
 C.ld .agg 32 (Addr.mk b3 0 none) fun v12 =>
 C.call n_spec_l07Keys [(.pointer (some x0))] [.slice] fun r11 =>
 C.chk [⟨2, 32, (Addr.mk b3 0 none), .agg, v12⟩] <|
 C.call n_spec_l07Find [(.slice r11.a r11.n r11.c), (.agg v12)] [(.int .i64)] fun r13 =>
 jt [(.int .i64 r13)]
 )
theorem spec_l07At_eq (C : Comb) (x0 : Addr) (x1 : Array Value) : fT C Tryz.prog ⟨[], [(10, [(6, (.int .i64))])], [3], []⟩ n_spec_l07At [(.pointer (some x0)), (.agg x1)] = spec_l07At C x0 x1 := by kernel_rfl
theorem spec_l07At_calls {R : Value → World → Prop} {w : World} (x0 : Addr) (x1 : Array Value) (h : (spec_l07At (real Tryz.prog R) x0 x1 : World → Prop) w) :
    Calls Tryz.prog n_spec_l07At [(.pointer (some x0)), (.agg x1)].toArray w fun e w' => ∃ v, e = .returned v ∧ R v w' := fT_sound mixed ⟨[], [(10, [(6, (.int .i64))])], [3], []⟩ (by rw [spec_l07At_eq]; exact h)

def spec_l07Above (C : Comb) (x0 : Addr) (x1 : Int) : C.St :=
 C.call n_spec_l07Keys [(.pointer (some x0))] [.slice] fun r11 =>
 C.ix r11.a r11.n 32 x1 fun p14 =>
 C.ld .agg 32 p14 fun v15 =>
 C.sem (Instr.buildSlice ty_sl_impl_Key 1 #[(0, (.agg v15))]) .slice fun y16 =>
 C.loop (TL [.slice, (.int .i64)]) (embL [.slice, (.int .i64)]) [(.slice y16.a y16.n y16.c), (.int .i64 0)] fun s5 ct5 => C.any fun _ =>
 cond (decide (s5.2 < (s5.1.n : Int))) (
 C.join (TL [.ptr]) (embL [.ptr]) (fun s17 => C.any fun _ =>
 C.loop (TL [.slice, (.int .i64)]) (embL [.slice, (.int .i64)]) [(.slice s5.1.a s5.1.n s5.1.c), (.int .i64 0)] fun s18 ct18 => C.any fun _ =>
 C.ld .slice 1 (s17.add 32) fun v37 =>
 cond (decide (s18.2 < (v37.n : Int))) (
 C.ld .slice 1 (s17.add 32) fun v44 =>
 C.ix v44.a v44.n 32 s18.2 fun p46 =>
 C.ld .agg 32 p46 fun v47 =>
 C.call n_spec_l01Has [(.slice s18.1.a s18.1.n s18.1.c), (.agg v47)] [.bool] fun r48 =>
 cond (!r48) (
 C.ld .slice 1 (s17.add 32) fun v52 =>
 C.ix v52.a v52.n 32 s18.2 fun p54 =>
 C.ld .agg 32 p54 fun v55 =>
 C.sem (Instr.buildSlice ty_sl_impl_Key 1 #[(0, (.agg v55))]) .slice fun y56 =>
 C.sem (Builtin.append_ #[ty_sl_impl_Key, ty_sl_impl_Key] ty_sl_impl_Key #[(.slice s18.1.a s18.1.n s18.1.c), (.slice y56.a y56.n y56.c)]) .slice fun y57 =>
 ct18 [(.slice y57.a y57.n y57.c), (.int .i64 (IntKind.wrap .i64 (s18.2 + 1)))]
 ) (
 ct18 [(.slice s18.1.a s18.1.n s18.1.c), (.int .i64 (IntKind.wrap .i64 (s18.2 + 1)))]
 )
 ) (
 ct5 [(.slice s18.1.a s18.1.n s18.1.c), (.int .i64 (IntKind.wrap .i64 (s5.2 + 1)))]
 )
 ) fun jt =>
 C.draw <|
 C.ld .slice 1 (x0.add 0) fun v26 =>
 C.ix s5.1.a s5.1.n 32 s5.2 fun p30 =>
 C.ld .agg 32 p30 fun v31 =>
 C.all [
 (C.call n_spec_l07Find [(.slice r11.a r11.n r11.c), (.agg v31)] [(.int .i64)] fun r32 =>
 C.chk [⟨3, 1, (x0.add 0), .slice, v26⟩] <|
 C.ix v26.a v26.n 35 r32 fun p33 =>
 C.ld .agg 35 p33 fun v34 =>
 C.new ty_impl_Commit (.agg (#[(.int .u8 0), (.int .u8 0), (.int .u8 0), (.int .u8 0), (.int .u8 0), (.int .u8 0), (.int .u8 0), (.int .u8 0), (.int .u8 0), (.int .u8 0), (.int .u8 0), (.int .u8 0), (.int .u8 0), (.int .u8 0), (.int .u8 0), (.int .u8 0), (.int .u8 0), (.int .u8 0), (.int .u8 0), (.int .u8 0), (.int .u8 0), (.int .u8 0), (.int .u8 0), (.int .u8 0), (.int .u8 0), (.int .u8 0), (.int .u8 0), (.int .u8 0), (.int .u8 0), (.int .u8 0), (.int .u8 0), (.int .u8 0), (.slice none 0 0), (.int .i64 0), (.string (⟨#[]⟩ : ByteArray))])) fun b8 =>
 C.chk [⟨11, 35, p33, .agg, v34⟩, ⟨3, 1, (x0.add 0), .slice, v26⟩] <|
 C.st 35 (Addr.mk b8 0 none) (.agg v34) <|
 jt [(.pointer (some (Addr.mk b8 0 none)))]),
 (C.new ty_impl_Commit (.agg (#[(.int .u8 0), (.int .u8 0), (.int .u8 0), (.int .u8 0), (.int .u8 0), (.int .u8 0), (.int .u8 0), (.int .u8 0), (.int .u8 0), (.int .u8 0), (.int .u8 0), (.int .u8 0), (.int .u8 0), (.int .u8 0), (.int .u8 0), (.int .u8 0), (.int .u8 0), (.int .u8 0), (.int .u8 0), (.int .u8 0), (.int .u8 0), (.int .u8 0), (.int .u8 0), (.int .u8 0), (.int .u8 0), (.int .u8 0), (.int .u8 0), (.int .u8 0), (.int .u8 0), (.int .u8 0), (.int .u8 0), (.int .u8 0), (.slice none 0 0), (.int .i64 0), (.string (⟨#[]⟩ : ByteArray))])) fun b8 =>
 C.chk [⟨8, 32, p30, .agg, v31⟩, ⟨3, 1, (x0.add 0), .slice, v26⟩] <|
 C.call n_spec_l07Find [(.slice r11.a r11.n r11.c), (.agg v31)] [(.int .i64)] fun r32 =>
 C.chk [⟨3, 1, (x0.add 0), .slice, v26⟩] <|
 C.ix v26.a v26.n 35 r32 fun p33 =>
 C.ld .agg 35 p33 fun v34 =>
 C.st 35 (Addr.mk b8 0 none) (.agg v34) <|
 jt [(.pointer (some (Addr.mk b8 0 none)))])]
 ) (
 C.call n_spec_l01Sort [(.slice s5.1.a s5.1.n s5.1.c), (.agg (Array.replicate 32 (.int .u8 0)))] [.slice] fun r60 =>
 C.ret (.slice r60.a r60.n r60.c)
 )
theorem spec_l07Above_eq (C : Comb) (x0 : Addr) (x1 : Int) : fT C Tryz.prog ⟨[(4, [(6, .slice), (7, (.int .i64))]), (8, [(6, .slice), (9, (.int .i64))])], [(19, [(8, .ptr)])], [6], []⟩ n_spec_l07Above [(.pointer (some x0)), (.int .i64 x1)] = spec_l07Above C x0 x1 := by kernel_rfl
theorem spec_l07Above_calls {R : Value → World → Prop} {w : World} (x0 : Addr) (x1 : Int) (h : (spec_l07Above (real Tryz.prog R) x0 x1 : World → Prop) w) :
    Calls Tryz.prog n_spec_l07Above [(.pointer (some x0)), (.int .i64 x1)].toArray w fun e w' => ∃ v, e = .returned v ∧ R v w' := fT_sound mixed ⟨[(4, [(6, .slice), (7, (.int .i64))]), (8, [(6, .slice), (9, (.int .i64))])], [(19, [(8, .ptr)])], [6], []⟩ (by rw [spec_l07Above_eq]; exact h)

def spec_l01Compare (C : Comb) (x0 : Array Value) (x1 : Array Value) : C.St :=
 C.new ty_impl_Key (.agg x0) fun b2 =>
 C.new ty_impl_Key (.agg x1) fun b3 =>
 C.loop (TL [(.int .i64)]) (embL [(.int .i64)]) [(.int .i64 0)] fun s3 ct3 => C.any fun _ =>
 cond (decide (s3 < 32)) (
 C.draw <|
 C.ix (some (Addr.mk b2 0 none)) 32 1 s3 fun p11 =>
 C.ld (.int .u8) 1 p11 fun v12 =>
 C.ix (some (Addr.mk b3 0 none)) 32 1 s3 fun p14 =>
 C.ld (.int .u8) 1 p14 fun v15 =>
 cond (v12 != v15) (
 C.draw <|
 C.ix (some (Addr.mk b2 0 none)) 32 1 s3 fun p18 =>
 C.ld (.int .u8) 1 p18 fun v19 =>
 C.ix (some (Addr.mk b3 0 none)) 32 1 s3 fun p21 =>
 C.ld (.int .u8) 1 p21 fun v22 =>
 cond (decide (v19 < v22)) (
 C.ret (.int .i64 (-1))
 ) (
 C.ret (.int .i64 1)
 )
 ) (
 ct3 [(.int .i64 (IntKind.wrap .i64 (s3 + 1)))]
 )
 ) (
 C.ret (.int .i64 0)
 )
theorem spec_l01Compare_eq (C : Comb) (x0 : Array Value) (x1 : Array Value) : fT C Tryz.prog ⟨[(2, [(5, (.int .i64))])], [], [], []⟩ n_spec_l01Compare [(.agg x0), (.agg x1)] = spec_l01Compare C x0 x1 := by kernel_rfl
theorem spec_l01Compare_calls {R : Value → World → Prop} {w : World} (x0 : Array Value) (x1 : Array Value) (h : (spec_l01Compare (real Tryz.prog R) x0 x1 : World → Prop) w) :
    Calls Tryz.prog n_spec_l01Compare [(.agg x0), (.agg x1)].toArray w fun e w' => ∃ v, e = .returned v ∧ R v w' := fT_sound mixed ⟨[(2, [(5, (.int .i64))])], [], [], []⟩ (by rw [spec_l01Compare_eq]; exact h)

def spec_l07Two (C : Comb) (x0 : Addr) (x1 : Array Value) (x2 : Array Value) : C.St :=
 C.new ty_impl_Key (.agg x1) fun b4 =>
 C.new ty_impl_Key (.agg x2) fun b5 =>
 C.ld .agg 32 (Addr.mk b4 0 none) fun v15 =>
 C.call n_spec_l07At [(.pointer (some x0)), (.agg v15)] [(.int .i64), (.int .i64)] fun r16 =>
 cond (r16.2 != 0) (
 C.ret (.tuple #[(.int .i64 0), (.int .i64 0), (.int .i64 r16.2)])
 ) (
 C.ld .agg 32 (Addr.mk b5 0 none) fun v24 =>
 C.call n_spec_l07At [(.pointer (some x0)), (.agg v24)] [(.int .i64), (.int .i64)] fun r25 =>
 cond (r25.2 != 0) (
 C.ret (.tuple #[(.int .i64 0), (.int .i64 0), (.int .i64 r25.2)])
 ) (
 C.ret (.tuple #[(.int .i64 r16.1), (.int .i64 r25.1), (.int .i64 0)])
 )
 )
theorem spec_l07Two_eq (C : Comb) (x0 : Addr) (x1 : Array Value) (x2 : Array Value) : fT C Tryz.prog ⟨[], [], [], []⟩ n_spec_l07Two [(.pointer (some x0)), (.agg x1), (.agg x2)] = spec_l07Two C x0 x1 x2 := by kernel_rfl
theorem spec_l07Two_calls {R : Value → World → Prop} {w : World} (x0 : Addr) (x1 : Array Value) (x2 : Array Value) (h : (spec_l07Two (real Tryz.prog R) x0 x1 x2 : World → Prop) w) :
    Calls Tryz.prog n_spec_l07Two [(.pointer (some x0)), (.agg x1), (.agg x2)].toArray w fun e w' => ∃ v, e = .returned v ∧ R v w' := fT_sound mixed ⟨[], [], [], []⟩ (by rw [spec_l07Two_eq]; exact h)

def spec_l01Has (C : Comb) (x0 : Sl) (x1 : Array Value) : C.St :=
 C.new ty_impl_Key (.agg x1) fun b3 =>
 C.loop (TL [(.int .i64)]) (embL [(.int .i64)]) [(.int .i64 0)] fun s2 ct2 => C.any fun _ =>
 cond (decide (s2 < (x0.n : Int))) (
 C.draw <|
 C.ix x0.a x0.n 32 s2 fun p14 =>
 C.ld .agg 32 p14 fun v15 =>
 C.ld .agg 32 (Addr.mk b3 0 none) fun v16 =>
 C.pur (eqB .eql ty_impl_Key (.tmp 15) (.tmp 16) (.agg v15) (.agg v16)) .bool fun y17 =>
 cond y17 (
 C.ret (.bool true)
 ) (
 ct2 [(.int .i64 (IntKind.wrap .i64 (s2 + 1)))]
 )
 ) (
 C.ret (.bool false)
 )
theorem spec_l01Has_eq (C : Comb) (x0 : Sl) (x1 : Array Value) : fT C Tryz.prog ⟨[(2, [(5, (.int .i64))])], [], [], []⟩ n_spec_l01Has [(.slice x0.a x0.n x0.c), (.agg x1)] = spec_l01Has C x0 x1 := by kernel_rfl
theorem spec_l01Has_calls {R : Value → World → Prop} {w : World} (x0 : Sl) (x1 : Array Value) (h : (spec_l01Has (real Tryz.prog R) x0 x1 : World → Prop) w) :
    Calls Tryz.prog n_spec_l01Has [(.slice x0.a x0.n x0.c), (.agg x1)].toArray w fun e w' => ∃ v, e = .returned v ∧ R v w' := fT_sound mixed ⟨[(2, [(5, (.int .i64))])], [], [], []⟩ (by rw [spec_l01Has_eq]; exact h)

def ptr_spec_l00Src_one (C : Comb) (x0 : Addr) (x1 : Int) : C.St :=
 C.call n_ptr_spec_l00Src_pick [(.pointer (some x0)), (.int .i64 x1)] [(.int .i64)] fun r7 =>
 C.ret (.bool (r7 == 0))
theorem ptr_spec_l00Src_one_eq (C : Comb) (x0 : Addr) (x1 : Int) : fT C Tryz.prog ⟨[], [], [], []⟩ n_ptr_spec_l00Src_one [(.pointer (some x0)), (.int .i64 x1)] = ptr_spec_l00Src_one C x0 x1 := by kernel_rfl
theorem ptr_spec_l00Src_one_calls {R : Value → World → Prop} {w : World} (x0 : Addr) (x1 : Int) (h : (ptr_spec_l00Src_one (real Tryz.prog R) x0 x1 : World → Prop) w) :
    Calls Tryz.prog n_ptr_spec_l00Src_one [(.pointer (some x0)), (.int .i64 x1)].toArray w fun e w' => ∃ v, e = .returned v ∧ R v w' := fT_sound mixed ⟨[], [], [], []⟩ (by rw [ptr_spec_l00Src_one_eq]; exact h)

def impl_newLedger (C : Comb) (x0 : Array Value) : C.St :=
 C.new ty_impl_Book (.agg x0) fun b1 =>
 C.join (TL []) (embL []) (fun s5 => C.any fun _ =>
 C.ld .agg 2 (Addr.mk b1 0 none) fun v25 =>
 C.pur (Instr.build ty_impl_ledger #[(0, (.agg v25))]) .agg fun y26 =>
 C.new ty_impl_ledger (.agg y26) fun b27 =>
 C.ld .slice 1 ((Addr.mk b1 0 none).add 0) fun v29 =>
 C.loop (TL [(.int .i64)]) (embL [(.int .i64)]) [(.int .i64 0)] fun s10 ct10 => C.any fun _ =>
 cond (decide (s10 < (v29.n : Int))) (
 C.ix v29.a v29.n 35 s10 fun p34 =>
 C.ld .agg 35 p34 fun v35 =>
 C.new ty_impl_Commit (.agg (#[(.int .u8 0), (.int .u8 0), (.int .u8 0), (.int .u8 0), (.int .u8 0), (.int .u8 0), (.int .u8 0), (.int .u8 0), (.int .u8 0), (.int .u8 0), (.int .u8 0), (.int .u8 0), (.int .u8 0), (.int .u8 0), (.int .u8 0), (.int .u8 0), (.int .u8 0), (.int .u8 0), (.int .u8 0), (.int .u8 0), (.int .u8 0), (.int .u8 0), (.int .u8 0), (.int .u8 0), (.int .u8 0), (.int .u8 0), (.int .u8 0), (.int .u8 0), (.int .u8 0), (.int .u8 0), (.int .u8 0), (.int .u8 0), (.slice none 0 0), (.int .i64 0), (.string (⟨#[]⟩ : ByteArray))])) fun b6 =>
 C.st 35 (Addr.mk b6 0 none) (.agg v35) <|
 C.join (TL []) (embL []) (fun s46 => C.any fun _ =>
 C.ld .slice 1 ((Addr.mk b6 0 none).add 32) fun v63 =>
 C.call n_ptr_impl_ledger_number [(.pointer (some (Addr.mk b27 0 none))), (.slice v63.a v63.n v63.c)] [(.int .i64), .bool] fun r64 =>
 C.ld .agg 35 (Addr.mk b6 0 none) fun v67 =>
 C.call n_impl_Commit_key [(.agg v67)] [.agg] fun r68 =>
 C.new ty_impl_Key (.agg (Array.replicate 32 (.int .u8 0))) fun b9 =>
 C.st 32 (Addr.mk b9 0 none) (.agg r68) <|
 C.join (TL []) (embL []) (fun s55 => C.any fun _ =>
 C.draw <|
 C.ld .slice 1 ((Addr.mk b27 0 none).add 2) fun v90 =>
 C.ld .agg 32 (Addr.mk b9 0 none) fun v91 =>
 C.sem (Instr.buildSlice ty_sl_impl_Key 1 #[(0, (.agg v91))]) .slice fun y92 =>
 C.chk [⟨4, 1, ((Addr.mk b27 0 none).add 2), .slice, v90⟩] <|
 C.sem (Builtin.append_ #[ty_sl_impl_Key, ty_sl_impl_Key] ty_sl_impl_Key #[(.slice v90.a v90.n v90.c), (.slice y92.a y92.n y92.c)]) .slice fun y93 =>
 C.st 1 ((Addr.mk b27 0 none).add 2) (.slice y93.a y93.n y93.c) <|
 ct10 [(.int .i64 (IntKind.wrap .i64 (s10 + 1)))]
 ) fun jt =>
 C.ld .agg 32 (Addr.mk b9 0 none) fun v71 =>
 C.call n_ptr_impl_ledger_find [(.pointer (some (Addr.mk b27 0 none))), (.agg v71)] [(.int .i64), .bool] fun r72 =>
 cond (!r64.2) (
 C.ret (.tuple #[(.pointer none), (.bool false)])
 ) (
 cond r72.2 (
 C.ret (.tuple #[(.pointer none), (.bool false)])
 ) (
 C.ld (.int .i64) 1 ((Addr.mk b6 0 none).add 33) fun v83 =>
 cond (r64.1 != v83) (
 C.ret (.tuple #[(.pointer none), (.bool false)])
 ) (
 jt []
 )
 )
 )
 ) fun jt =>
 C.draw <|
 C.ld .agg 35 (Addr.mk b6 0 none) fun v36 =>
 C.call n_impl_ValidCommit [(.agg v36)] [.bool] fun r37 =>
 cond (!r37) (
 C.all [
 (C.ret (.tuple #[(.pointer none), (.bool false)])),
 (C.all [
 (C.ret (.tuple #[(.pointer none), (.bool false)])),
 (C.all [
 (C.ret (.tuple #[(.pointer none), (.bool false)])),
 (C.all [
 (C.ret (.tuple #[(.pointer none), (.bool false)])),
 (C.ret (.tuple #[(.pointer none), (.bool false)]))])])])]
 ) (
 C.ld .slice 1 ((Addr.mk b1 0 none).add 1) fun v41 =>
 C.ix v41.a v41.n 1 s10 fun p43 =>
 C.ld .slice 1 p43 fun v44 =>
 C.call n_impl_ValidEntries [(.slice v44.a v44.n v44.c)] [.bool] fun r45 =>
 cond (!r45) (
 C.all [
 (C.ret (.tuple #[(.pointer none), (.bool false)])),
 (C.all [
 (C.ret (.tuple #[(.pointer none), (.bool false)])),
 (C.all [
 (C.ret (.tuple #[(.pointer none), (.bool false)])),
 (C.all [
 (C.ret (.tuple #[(.pointer none), (.bool false)])),
 (C.ret (.tuple #[(.pointer none), (.bool false)]))])])])]
 ) (
 C.all [
 (C.ld .agg 32 ((Addr.mk b6 0 none).add 0) fun v50 =>
 C.ld .slice 1 ((Addr.mk b1 0 none).add 1) fun v52 =>
 C.ix v52.a v52.n 1 s10 fun p54 =>
 C.ld .slice 1 p54 fun v55 =>
 C.call n_impl_treeOf [(.slice v55.a v55.n v55.c)] [.optr] fun r56 =>
 C.call n_ptr_impl_tree_key [(.pointer r56)] [.agg] fun r57 =>
 C.pur (eqB .neq ty_impl_Key (.tmp 50) (.tmp 57) (.agg v50) (.agg r57)) .bool fun y58 =>
 cond y58 (
 C.ret (.tuple #[(.pointer none), (.bool false)])
 ) (
 jt []
 )),
 (C.ld .slice 1 ((Addr.mk b1 0 none).add 1) fun v52 =>
 C.ix v52.a v52.n 1 s10 fun p54 =>
 C.all [
 (C.ld .agg 32 ((Addr.mk b6 0 none).add 0) fun v50 =>
 C.ld .slice 1 p54 fun v55 =>
 C.call n_impl_treeOf [(.slice v55.a v55.n v55.c)] [.optr] fun r56 =>
 C.call n_ptr_impl_tree_key [(.pointer r56)] [.agg] fun r57 =>
 C.pur (eqB .neq ty_impl_Key (.tmp 50) (.tmp 57) (.agg v50) (.agg r57)) .bool fun y58 =>
 cond y58 (
 C.ret (.tuple #[(.pointer none), (.bool false)])
 ) (
 jt []
 )),
 (C.ld .slice 1 p54 fun v55 =>
 C.all [
 (C.ld .agg 32 ((Addr.mk b6 0 none).add 0) fun v50 =>
 C.call n_impl_treeOf [(.slice v55.a v55.n v55.c)] [.optr] fun r56 =>
 C.call n_ptr_impl_tree_key [(.pointer r56)] [.agg] fun r57 =>
 C.pur (eqB .neq ty_impl_Key (.tmp 50) (.tmp 57) (.agg v50) (.agg r57)) .bool fun y58 =>
 cond y58 (
 C.ret (.tuple #[(.pointer none), (.bool false)])
 ) (
 jt []
 )),
 (C.call n_impl_treeOf [(.slice v55.a v55.n v55.c)] [.optr] fun r56 =>
 C.all [
 (C.ld .agg 32 ((Addr.mk b6 0 none).add 0) fun v50 =>
 C.call n_ptr_impl_tree_key [(.pointer r56)] [.agg] fun r57 =>
 C.pur (eqB .neq ty_impl_Key (.tmp 50) (.tmp 57) (.agg v50) (.agg r57)) .bool fun y58 =>
 cond y58 (
 C.ret (.tuple #[(.pointer none), (.bool false)])
 ) (
 jt []
 )),
 (C.call n_ptr_impl_tree_key [(.pointer r56)] [.agg] fun r57 =>
 C.ld .agg 32 ((Addr.mk b6 0 none).add 0) fun v50 =>
 C.pur (eqB .neq ty_impl_Key (.tmp 50) (.tmp 57) (.agg v50) (.agg r57)) .bool fun y58 =>
 cond y58 (
 C.ret (.tuple #[(.pointer none), (.bool false)])
 ) (
 jt []
 ))])])])]
 )
 )
 ) (
 C.ret (.tuple #[(.pointer (some (Addr.mk b27 0 none))), (.bool true)])
 )
 ) fun jt =>
 C.ld .slice 1 ((Addr.mk b1 0 none).add 0) fun v13 =>
 cond (decide ((v13.n : Int) > 40)) (
 C.ret (.tuple #[(.pointer none), (.bool false)])
 ) (
 C.ld .slice 1 ((Addr.mk b1 0 none).add 1) fun v18 =>
 C.ld .slice 1 ((Addr.mk b1 0 none).add 0) fun v21 =>
 cond ((v18.n : Int) != (v21.n : Int)) (
 C.ret (.tuple #[(.pointer none), (.bool false)])
 ) (
 jt []
 )
 )
theorem impl_newLedger_eq (C : Comb) (x0 : Array Value) : fT C Tryz.prog ⟨[(5, [(31, (.int .i64))])], [(72, []), (177, []), (255, [])], [7, 14], []⟩ n_impl_newLedger [(.agg x0)] = impl_newLedger C x0 := by kernel_rfl
theorem impl_newLedger_calls {R : Value → World → Prop} {w : World} (x0 : Array Value) (h : (impl_newLedger (real Tryz.prog R) x0 : World → Prop) w) :
    Calls Tryz.prog n_impl_newLedger [(.agg x0)].toArray w fun e w' => ∃ v, e = .returned v ∧ R v w' := fT_sound mixed ⟨[(5, [(31, (.int .i64))])], [(72, []), (177, []), (255, [])], [7, 14], []⟩ (by rw [impl_newLedger_eq]; exact h)

def impl_Commit_data (C : Comb) (x0 : Array Value) : C.St :=
 C.new ty_impl_Commit (.agg x0) fun b1 =>
 C.join (TL [.slice]) (embL [.slice]) (fun s6 => C.any fun _ =>
 C.ld .slice 1 ((Addr.mk b1 0 none).add 32) fun v16 =>
 C.loop (TL [.slice, (.int .i64)]) (embL [.slice, (.int .i64)]) [(.slice s6.a s6.n s6.c), (.int .i64 0)] fun s8 ct8 => C.any fun _ =>
 cond (decide (s8.2 < (v16.n : Int))) (
 C.ix v16.a v16.n 32 s8.2 fun p20 =>
 C.ld .agg 32 p20 fun v21 =>
 C.new ty_impl_Key (.agg (Array.replicate 32 (.int .u8 0))) fun b5 =>
 C.st 32 (Addr.mk b5 0 none) (.agg v21) <|
 C.sl (some (Addr.mk b5 0 none)) 32 32 1 none none none fun y23 =>
 C.sem (Builtin.append_ #[ty_sl_uint8, ty_sl_uint8] ty_sl_uint8 #[(.slice s8.1.a s8.1.n s8.1.c), (.slice y23.a y23.n y23.c)]) .slice fun y24 =>
 ct8 [(.slice y24.a y24.n y24.c), (.int .i64 (IntKind.wrap .i64 (s8.2 + 1)))]
 ) (
 C.draw <|
 C.ld (.int .i64) 1 ((Addr.mk b1 0 none).add 33) fun v28 =>
 C.ld .str 1 ((Addr.mk b1 0 none).add 34) fun v33 =>
 C.sem (Instr.buildSlice ty_sl_uint8 1 #[(0, (.int .u8 (IntKind.wrap .u8 (v28))))]) .slice fun y30 =>
 C.chk [⟨7, 1, ((Addr.mk b1 0 none).add 34), .str, v33⟩, ⟨2, 1, ((Addr.mk b1 0 none).add 33), (.int .i64), v28⟩] <|
 C.sem (Builtin.append_ #[ty_sl_uint8, ty_sl_uint8] ty_sl_uint8 #[(.slice s8.1.a s8.1.n s8.1.c), (.slice y30.a y30.n y30.c)]) .slice fun y31 =>
 C.chk [⟨7, 1, ((Addr.mk b1 0 none).add 34), .str, v33⟩, ⟨2, 1, ((Addr.mk b1 0 none).add 33), (.int .i64), v28⟩] <|
 C.sem (Builtin.append_ #[ty_sl_uint8, ty_string] ty_sl_uint8 #[(.slice y31.a y31.n y31.c), (.string v33)]) .slice fun y34 =>
 C.chk [⟨2, 1, ((Addr.mk b1 0 none).add 33), (.int .i64), v28⟩] <|
 C.ret (.slice y34.a y34.n y34.c)
 )
 ) fun jt =>
 C.draw <|
 C.ld .slice 1 ((Addr.mk b1 0 none).add 32) fun v7 =>
 C.sl (some ((Addr.mk b1 0 none).add 0)) 32 32 1 none none none fun y13 =>
 C.sem (Instr.buildSlice ty_sl_uint8 1 #[(0, (.int .u8 (IntKind.wrap .u8 ((IntKind.wrap .i64 ((v7.n : Int) + 1))))))]) .slice fun y11 =>
 C.chk [⟨1, 1, ((Addr.mk b1 0 none).add 32), .slice, v7⟩] <|
 C.sem (Builtin.append_ #[ty_sl_uint8, ty_sl_uint8] ty_sl_uint8 #[(.slice y11.a y11.n y11.c), (.slice y13.a y13.n y13.c)]) .slice fun y14 =>
 C.chk [⟨1, 1, ((Addr.mk b1 0 none).add 32), .slice, v7⟩] <|
 jt [(.slice y14.a y14.n y14.c)]
theorem impl_Commit_data_eq (C : Comb) (x0 : Array Value) : fT C Tryz.prog ⟨[(3, [(3, .slice), (18, (.int .i64))])], [(4, [(3, .slice)])], [1, 7], []⟩ n_impl_Commit_data [(.agg x0)] = impl_Commit_data C x0 := by kernel_rfl
theorem impl_Commit_data_calls {R : Value → World → Prop} {w : World} (x0 : Array Value) (h : (impl_Commit_data (real Tryz.prog R) x0 : World → Prop) w) :
    Calls Tryz.prog n_impl_Commit_data [(.agg x0)].toArray w fun e w' => ∃ v, e = .returned v ∧ R v w' := fT_sound mixed ⟨[(3, [(3, .slice), (18, (.int .i64))])], [(4, [(3, .slice)])], [1, 7], []⟩ (by rw [impl_Commit_data_eq]; exact h)

def impl_Commit_key (C : Comb) (x0 : Array Value) : C.St :=
 C.new ty_impl_Commit (.agg x0) fun b1 =>
 C.new ty_impl_Key (.agg (Array.replicate 32 (.int .u8 0))) fun b2 =>
 C.ld .agg 35 (Addr.mk b1 0 none) fun v3 =>
 C.call n_impl_Commit_data [(.agg v3)] [.slice] fun r4 =>
 C.call n_impl_hash [(.int .u8 7), (.slice r4.a r4.n r4.c)] [.agg] fun r5 =>
 C.st 32 (Addr.mk b2 0 none) (.agg r5) <|
 C.ld .agg 32 (Addr.mk b2 0 none) fun z6 =>
 C.ret (.agg z6)
theorem impl_Commit_key_eq (C : Comb) (x0 : Array Value) : fT C Tryz.prog ⟨[], [], [], []⟩ n_impl_Commit_key [(.agg x0)] = impl_Commit_key C x0 := by kernel_rfl
theorem impl_Commit_key_calls {R : Value → World → Prop} {w : World} (x0 : Array Value) (h : (impl_Commit_key (real Tryz.prog R) x0 : World → Prop) w) :
    Calls Tryz.prog n_impl_Commit_key [(.agg x0)].toArray w fun e w' => ∃ v, e = .returned v ∧ R v w' := fT_sound mixed ⟨[], [], [], []⟩ (by rw [impl_Commit_key_eq]; exact h)

def spec_l01Hash (C : Comb) (x0 : Int) (x1 : Sl) : C.St :=
 C.new ty_impl_Key (.agg (Array.replicate 32 (.int .u8 0))) fun b4 =>
 C.call n_spec_l01Start [(.int .u8 x0)] [.agg] fun r6 =>
 C.call n_spec_l01End [(.agg r6), (.slice x1.a x1.n x1.c), (.int .i64 (x1.n : Int))] [.agg] fun r10 =>
 C.st 32 (Addr.mk b4 0 none) (.agg r10) <|
 C.ld .agg 32 (Addr.mk b4 0 none) fun z4 =>
 C.ret (.agg z4)
theorem spec_l01Hash_eq (C : Comb) (x0 : Int) (x1 : Sl) : fT C Tryz.prog ⟨[], [], [], []⟩ n_spec_l01Hash [(.int .u8 x0), (.slice x1.a x1.n x1.c)] = spec_l01Hash C x0 x1 := by kernel_rfl
theorem spec_l01Hash_calls {R : Value → World → Prop} {w : World} (x0 : Int) (x1 : Sl) (h : (spec_l01Hash (real Tryz.prog R) x0 x1 : World → Prop) w) :
    Calls Tryz.prog n_spec_l01Hash [(.int .u8 x0), (.slice x1.a x1.n x1.c)].toArray w fun e w' => ∃ v, e = .returned v ∧ R v w' := fT_sound mixed ⟨[], [], [], []⟩ (by rw [spec_l01Hash_eq]; exact h)

def ptr_impl_ledger_at (C : Comb) (x0 : Addr) (x1 : Array Value) : C.St :=
 C.new ty_impl_Key (.agg x1) fun b3 =>
 C.ld .agg 32 (Addr.mk b3 0 none) fun v9 =>
 C.call n_ptr_impl_ledger_find [(.pointer (some x0)), (.agg v9)] [(.int .i64), .bool] fun r10 =>
 C.ret (.int .i64 r10.1)
theorem ptr_impl_ledger_at_eq (C : Comb) (x0 : Addr) (x1 : Array Value) : fT C Tryz.prog ⟨[], [], [], []⟩ n_ptr_impl_ledger_at [(.pointer (some x0)), (.agg x1)] = ptr_impl_ledger_at C x0 x1 := by kernel_rfl
theorem ptr_impl_ledger_at_calls {R : Value → World → Prop} {w : World} (x0 : Addr) (x1 : Array Value) (h : (ptr_impl_ledger_at (real Tryz.prog R) x0 x1 : World → Prop) w) :
    Calls Tryz.prog n_ptr_impl_ledger_at [(.pointer (some x0)), (.agg x1)].toArray w fun e w' => ∃ v, e = .returned v ∧ R v w' := fT_sound mixed ⟨[], [], [], []⟩ (by rw [ptr_impl_ledger_at_eq]; exact h)

def spec_l07Map (C : Comb) (x0 : Addr) : C.St :=
 C.sem (Instr.buildSlice ty_sl_impl_Entry 0 #[]) .slice fun y5 =>
 C.loop (TL [.slice, (.int .i64)]) (embL [.slice, (.int .i64)]) [(.slice y5.a y5.n y5.c), (.int .i64 0)] fun s2 ct2 => C.any fun _ =>
 cond (decide (s2.2 < 4)) (
 C.call n_ptr_spec_l00Src_one [(.pointer (some x0)), (.int .i64 2)] [.bool] fun r11 =>
 cond r11 (
 C.draw <|
 C.slS (⟨#[119, 120, 121, 122]⟩ : ByteArray) (some s2.2) (some (IntKind.wrap .i64 (s2.2 + 1))) fun y16 =>
 C.sem (Instr.buildSlice ty_sl_string 4 #[(0, (.string (⟨#[49]⟩ : ByteArray))), (1, (.string (⟨#[50]⟩ : ByteArray))), (2, (.string (⟨#[51]⟩ : ByteArray))), (3, (.string (⟨#[]⟩ : ByteArray)))]) .slice fun y18 =>
 C.call n_ptr_spec_l00Src_text [(.pointer (some x0)), (.slice y18.a y18.n y18.c)] [.str] fun r19 =>
 C.pur (Instr.build ty_impl_Entry #[(0, (.string y16)), (1, (.string r19))]) .agg fun y20 =>
 C.sem (Instr.buildSlice ty_sl_impl_Entry 1 #[(0, (.agg y20))]) .slice fun y21 =>
 C.sem (Builtin.append_ #[ty_sl_impl_Entry, ty_sl_impl_Entry] ty_sl_impl_Entry #[(.slice s2.1.a s2.1.n s2.1.c), (.slice y21.a y21.n y21.c)]) .slice fun y22 =>
 ct2 [(.slice y22.a y22.n y22.c), (.int .i64 (IntKind.wrap .i64 (s2.2 + 1)))]
 ) (
 ct2 [(.slice s2.1.a s2.1.n s2.1.c), (.int .i64 (IntKind.wrap .i64 (s2.2 + 1)))]
 )
 ) (
 C.ret (.slice s2.1.a s2.1.n s2.1.c)
 )
theorem spec_l07Map_eq (C : Comb) (x0 : Addr) : fT C Tryz.prog ⟨[(3, [(3, .slice), (4, (.int .i64))])], [], [6], []⟩ n_spec_l07Map [(.pointer (some x0))] = spec_l07Map C x0 := by kernel_rfl
theorem spec_l07Map_calls {R : Value → World → Prop} {w : World} (x0 : Addr) (h : (spec_l07Map (real Tryz.prog R) x0 : World → Prop) w) :
    Calls Tryz.prog n_spec_l07Map [(.pointer (some x0))].toArray w fun e w' => ∃ v, e = .returned v ∧ R v w' := fT_sound mixed ⟨[(3, [(3, .slice), (4, (.int .i64))])], [], [6], []⟩ (by rw [spec_l07Map_eq]; exact h)

def impl_ValidEntries (C : Comb) (x0 : Sl) : C.St :=
 C.loop (TL [(.int .i64)]) (embL [(.int .i64)]) [(.int .i64 0)] fun s1 ct1 => C.any fun _ =>
 cond (decide (s1 < (x0.n : Int))) (
 C.ix x0.a x0.n 2 s1 fun p10 =>
 C.ld .agg 2 p10 fun v11 =>
 C.new ty_impl_Entry (.agg (#[(.string (⟨#[]⟩ : ByteArray)), (.string (⟨#[]⟩ : ByteArray))])) fun b4 =>
 C.st 2 (Addr.mk b4 0 none) (.agg v11) <|
 C.draw <|
 C.ld .agg 2 (Addr.mk b4 0 none) fun v12 =>
 C.call n_impl_ValidEntry [(.agg v12)] [.bool] fun r13 =>
 cond (!r13) (
 C.all [
 (C.ret (.bool false)),
 (C.ret (.bool false))]
 ) (
 cond (decide (s1 > 0)) (
 C.ix x0.a x0.n 2 (IntKind.wrap .i64 (s1 - 1)) fun p24 =>
 C.all [
 (C.ld .str 1 ((Addr.mk b4 0 none).add 0) fun v20 =>
 C.ld .str 1 (p24.add 0) fun v26 =>
 C.pur (eqB .leq ty_string (.tmp 20) (.tmp 26) (.string v20) (.string v26)) .bool fun y27 =>
 cond y27 (
 C.ret (.bool false)
 ) (
 ct1 [(.int .i64 (IntKind.wrap .i64 (s1 + 1)))]
 )),
 (C.ld .str 1 (p24.add 0) fun v26 =>
 C.ld .str 1 ((Addr.mk b4 0 none).add 0) fun v20 =>
 C.pur (eqB .leq ty_string (.tmp 20) (.tmp 26) (.string v20) (.string v26)) .bool fun y27 =>
 cond y27 (
 C.ret (.bool false)
 ) (
 ct1 [(.int .i64 (IntKind.wrap .i64 (s1 + 1)))]
 ))]
 ) (
 C.all [
 (ct1 [(.int .i64 (IntKind.wrap .i64 (s1 + 1)))]),
 (ct1 [(.int .i64 (IntKind.wrap .i64 (s1 + 1)))])]
 )
 )
 ) (
 C.ret (.bool (decide ((x0.n : Int) ≤ 64)))
 )
theorem impl_ValidEntries_eq (C : Comb) (x0 : Sl) : fT C Tryz.prog ⟨[(2, [(7, (.int .i64))])], [], [4], []⟩ n_impl_ValidEntries [(.slice x0.a x0.n x0.c)] = impl_ValidEntries C x0 := by kernel_rfl
theorem impl_ValidEntries_calls {R : Value → World → Prop} {w : World} (x0 : Sl) (h : (impl_ValidEntries (real Tryz.prog R) x0 : World → Prop) w) :
    Calls Tryz.prog n_impl_ValidEntries [(.slice x0.a x0.n x0.c)].toArray w fun e w' => ∃ v, e = .returned v ∧ R v w' := fT_sound mixed ⟨[(2, [(7, (.int .i64))])], [], [4], []⟩ (by rw [impl_ValidEntries_eq]; exact h)

def spec_l07Book (C : Comb) (x0 : Addr) : C.St :=
 C.join (TL []) (embL []) (fun s4 => C.any fun _ =>
 C.sem (Instr.buildSlice ty_sl_impl_Key 0 #[]) .slice fun y29 =>
 C.loop (TL [.slice, (.int .i64)]) (embL [.slice, (.int .i64)]) [(.slice y29.a y29.n y29.c), (.int .i64 0)] fun s6 ct6 => C.any fun _ =>
 C.ld .slice 1 (x0.add 0) fun v34 =>
 cond (decide (s6.2 < (v34.n : Int))) (
 C.ld .slice 1 (x0.add 0) fun v42 =>
 C.ix v42.a v42.n 35 s6.2 fun p44 =>
 C.call n_spec_l07Ok [(.pointer (some p44))] [.bool] fun r46 =>
 cond (!r46) (
 C.ret (.bool false)
 ) (
 C.ld .slice 1 (x0.add 1) fun v52 =>
 C.ix v52.a v52.n 1 s6.2 fun p54 =>
 C.ld .slice 1 p54 fun v55 =>
 C.call n_spec_MapKey [(.slice v55.a v55.n v55.c)] [.agg, (.int .i64)] fun r56 =>
 C.new ty_impl_Key (.agg (Array.replicate 32 (.int .u8 0))) fun b6 =>
 C.st 32 (Addr.mk b6 0 none) (.agg r56.1) <|
 C.join (TL []) (embL []) (fun s19 => C.any fun _ =>
 C.loop (TL [(.int .i64)]) (embL [(.int .i64)]) [(.int .i64 0)] fun s20 ct20 => C.any fun _ =>
 C.ld .slice 1 (p44.add 32) fun v73 =>
 cond (decide (s20 < (v73.n : Int))) (
 C.ld .slice 1 (p44.add 32) fun v82 =>
 C.ix v82.a v82.n 32 s20 fun p84 =>
 C.ld .agg 32 p84 fun v85 =>
 C.call n_spec_l01Has [(.slice s6.1.a s6.1.n s6.1.c), (.agg v85)] [.bool] fun r86 =>
 cond (!r86) (
 C.ret (.bool false)
 ) (
 ct20 [(.int .i64 (IntKind.wrap .i64 (s20 + 1)))]
 )
 ) (
 C.call n_spec_l07Key [(.pointer (some p44))] [.agg] fun r89 =>
 C.new ty_impl_Key (.agg (Array.replicate 32 (.int .u8 0))) fun b9 =>
 C.st 32 (Addr.mk b9 0 none) (.agg r89) <|
 C.draw <|
 C.ld (.int .i64) 1 (p44.add 33) fun v93 =>
 C.ld .slice 1 (p44.add 32) fun v99 =>
 C.call n_spec_l07Number [(.pointer (some x0)), (.slice s6.1.a s6.1.n s6.1.c), (.slice v99.a v99.n v99.c)] [(.int .i64)] fun r100 =>
 C.chk [⟨3, 1, (p44.add 33), (.int .i64), v93⟩] <|
 cond (v93 != r100) (
 C.chk [⟨3, 1, (p44.add 33), (.int .i64), v93⟩] <|
 C.chk [⟨3, 1, (p44.add 33), (.int .i64), v93⟩] <|
 C.ret (.bool false)
 ) (
 C.ld .agg 32 (Addr.mk b9 0 none) fun v104 =>
 C.chk [⟨3, 1, (p44.add 33), (.int .i64), v93⟩] <|
 C.call n_spec_l01Has [(.slice s6.1.a s6.1.n s6.1.c), (.agg v104)] [.bool] fun r105 =>
 C.chk [⟨3, 1, (p44.add 33), (.int .i64), v93⟩] <|
 cond r105 (
 C.ret (.bool false)
 ) (
 C.ld .agg 32 (Addr.mk b9 0 none) fun v108 =>
 C.sem (Instr.buildSlice ty_sl_impl_Key 1 #[(0, (.agg v108))]) .slice fun y109 =>
 C.sem (Builtin.append_ #[ty_sl_impl_Key, ty_sl_impl_Key] ty_sl_impl_Key #[(.slice s6.1.a s6.1.n s6.1.c), (.slice y109.a y109.n y109.c)]) .slice fun y110 =>
 ct6 [(.slice y110.a y110.n y110.c), (.int .i64 (IntKind.wrap .i64 (s6.2 + 1)))]
 )
 )
 )
 ) fun jt =>
 C.draw <|
 cond (r56.2 != 0) (
 C.ret (.bool false)
 ) (
 C.ld .agg 32 (Addr.mk b6 0 none) fun v62 =>
 C.ld .agg 32 (p44.add 0) fun v66 =>
 C.pur (eqB .neq ty_impl_Key (.tmp 62) (.tmp 66) (.agg v62) (.agg v66)) .bool fun y67 =>
 cond y67 (
 C.ret (.bool false)
 ) (
 jt []
 )
 )
 )
 ) (
 C.ret (.bool true)
 )
 ) fun jt =>
 C.draw <|
 C.ld .slice 1 (x0.add 0) fun v13 =>
 cond (decide ((v13.n : Int) > 40)) (
 C.ret (.bool false)
 ) (
 C.ld .slice 1 (x0.add 1) fun v20 =>
 C.ld .slice 1 (x0.add 0) fun v25 =>
 cond ((v20.n : Int) != (v25.n : Int)) (
 C.ret (.bool false)
 ) (
 jt []
 )
 )
theorem spec_l07Book_eq (C : Comb) (x0 : Addr) : fT C Tryz.prog ⟨[(5, [(3, .slice), (4, (.int .i64))]), (14, [(8, (.int .i64))])], [(84, []), (204, [])], [19], []⟩ n_spec_l07Book [(.pointer (some x0))] = spec_l07Book C x0 := by kernel_rfl
theorem spec_l07Book_calls {R : Value → World → Prop} {w : World} (x0 : Addr) (h : (spec_l07Book (real Tryz.prog R) x0 : World → Prop) w) :
    Calls Tryz.prog n_spec_l07Book [(.pointer (some x0))].toArray w fun e w' => ∃ v, e = .returned v ∧ R v w' := fT_sound mixed ⟨[(5, [(3, .slice), (4, (.int .i64))]), (14, [(8, (.int .i64))])], [(84, []), (204, [])], [19], []⟩ (by rw [spec_l07Book_eq]; exact h)

def spec_l07Commit (C : Comb) (x0 : Addr) (x1 : Sl) (x2 : Sl) (x3 : ByteArray) : C.St :=
 C.new ty_impl_Book (.agg (#[(.slice none 0 0), (.slice none 0 0)])) fun b8 =>
 C.new ty_impl_Key (.agg (Array.replicate 32 (.int .u8 0))) fun b9 =>
 C.call n_spec_l01Sort [(.slice x1.a x1.n x1.c), (.agg (Array.replicate 32 (.int .u8 0)))] [.slice] fun r21 =>
 C.join (TL []) (embL []) (fun s10 => C.any fun _ =>
 C.call n_spec_l07Keys [(.pointer (some x0))] [.slice] fun r33 =>
 C.loop (TL [(.int .i64)]) (embL [(.int .i64)]) [(.int .i64 0)] fun s12 ct12 => C.any fun _ =>
 cond (decide (s12 < (r21.n : Int))) (
 C.ix r21.a r21.n 32 s12 fun p43 =>
 C.ld .agg 32 p43 fun v44 =>
 C.call n_spec_l01Has [(.slice r33.a r33.n r33.c), (.agg v44)] [.bool] fun r45 =>
 cond (!r45) (
 C.pur (Instr.build ty_impl_Book #[]) .agg fun y47 =>
 C.st 2 (Addr.mk b8 0 none) (.agg y47) <|
 C.st 32 (Addr.mk b9 0 none) (.agg (Array.replicate 32 (.int .u8 0))) <|
 C.ld .agg 2 (Addr.mk b8 0 none) fun z17 =>
 C.ld .agg 32 (Addr.mk b9 0 none) fun z18 =>
 C.ret (.tuple #[(.agg z17), (.agg z18), (.int .i64 6)])
 ) (
 ct12 [(.int .i64 (IntKind.wrap .i64 (s12 + 1)))]
 )
 ) (
 cond ((r33.n : Int) == 40) (
 C.pur (Instr.build ty_impl_Book #[]) .agg fun y52 =>
 C.st 2 (Addr.mk b8 0 none) (.agg y52) <|
 C.st 32 (Addr.mk b9 0 none) (.agg (Array.replicate 32 (.int .u8 0))) <|
 C.ld .agg 2 (Addr.mk b8 0 none) fun z20 =>
 C.ld .agg 32 (Addr.mk b9 0 none) fun z21 =>
 C.ret (.tuple #[(.agg z20), (.agg z21), (.int .i64 3)])
 ) (
 C.call n_spec_MapKey [(.slice x2.a x2.n x2.c)] [.agg, (.int .i64)] fun r56 =>
 C.new ty_impl_Key (.agg (Array.replicate 32 (.int .u8 0))) fun b14 =>
 C.st 32 (Addr.mk b14 0 none) (.agg r56.1) <|
 cond (r56.2 != 0) (
 C.pur (Instr.build ty_impl_Book #[]) .agg fun y61 =>
 C.st 2 (Addr.mk b8 0 none) (.agg y61) <|
 C.st 32 (Addr.mk b9 0 none) (.agg (Array.replicate 32 (.int .u8 0))) <|
 C.ld .agg 2 (Addr.mk b8 0 none) fun z25 =>
 C.ld .agg 32 (Addr.mk b9 0 none) fun z26 =>
 C.ret (.tuple #[(.agg z25), (.agg z26), (.int .i64 r56.2)])
 ) (
 C.join (TL [.ptr]) (embL [.ptr]) (fun s34 => C.any fun _ =>
 C.call n_spec_l07Key [(.pointer (some s34))] [.agg] fun r72 =>
 C.new ty_impl_Key (.agg (Array.replicate 32 (.int .u8 0))) fun b17 =>
 C.st 32 (Addr.mk b17 0 none) (.agg r72) <|
 C.ld .agg 32 (Addr.mk b17 0 none) fun v74 =>
 C.call n_spec_l01Has [(.slice r33.a r33.n r33.c), (.agg v74)] [.bool] fun r75 =>
 cond r75 (
 C.pur (Instr.build ty_impl_Book #[]) .agg fun y76 =>
 C.st 2 (Addr.mk b8 0 none) (.agg y76) <|
 C.st 32 (Addr.mk b9 0 none) (.agg (Array.replicate 32 (.int .u8 0))) <|
 C.ld .agg 2 (Addr.mk b8 0 none) fun z40 =>
 C.ld .agg 32 (Addr.mk b9 0 none) fun z41 =>
 C.ret (.tuple #[(.agg z40), (.agg z41), (.int .i64 4)])
 ) (
 C.call n_spec_l07Copy [(.pointer (some x0))] [.agg] fun r79 =>
 C.new ty_impl_Book (.agg (#[(.slice none 0 0), (.slice none 0 0)])) fun b18 =>
 C.st 2 (Addr.mk b18 0 none) (.agg r79) <|
 C.ld .slice 1 ((Addr.mk b18 0 none).add 0) fun v81 =>
 C.ld .agg 35 s34 fun v82 =>
 C.sem (Instr.buildSlice ty_sl_impl_Commit 1 #[(0, (.agg v82))]) .slice fun y83 =>
 C.sem (Builtin.append_ #[ty_sl_impl_Commit, ty_sl_impl_Commit] ty_sl_impl_Commit #[(.slice v81.a v81.n v81.c), (.slice y83.a y83.n y83.c)]) .slice fun y84 =>
 C.st 1 ((Addr.mk b18 0 none).add 0) (.slice y84.a y84.n y84.c) <|
 C.draw <|
 C.ld .slice 1 ((Addr.mk b18 0 none).add 1) fun v87 =>
 C.sem (Instr.buildSlice ty_sl_impl_Entry 0 #[]) .slice fun y88 =>
 C.chk [⟨1, 1, ((Addr.mk b18 0 none).add 1), .slice, v87⟩] <|
 C.sem (Builtin.append_ #[ty_sl_impl_Entry, ty_sl_impl_Entry] ty_sl_impl_Entry #[(.slice y88.a y88.n y88.c), (.slice x2.a x2.n x2.c)]) .slice fun y90 =>
 C.chk [⟨1, 1, ((Addr.mk b18 0 none).add 1), .slice, v87⟩] <|
 C.sem (Instr.buildSlice ty_sl_sl_impl_Entry 1 #[(0, (.slice y90.a y90.n y90.c))]) .slice fun y91 =>
 C.chk [⟨1, 1, ((Addr.mk b18 0 none).add 1), .slice, v87⟩] <|
 C.sem (Builtin.append_ #[ty_sl_sl_impl_Entry, ty_sl_sl_impl_Entry] ty_sl_sl_impl_Entry #[(.slice v87.a v87.n v87.c), (.slice y91.a y91.n y91.c)]) .slice fun y92 =>
 C.st 1 ((Addr.mk b18 0 none).add 1) (.slice y92.a y92.n y92.c) <|
 C.draw <|
 C.ld .agg 2 (Addr.mk b18 0 none) fun v94 =>
 C.ld .agg 32 (Addr.mk b17 0 none) fun v95 =>
 C.st 2 (Addr.mk b8 0 none) (.agg v94) <|
 C.chk [⟨1, 32, (Addr.mk b17 0 none), .agg, v95⟩] <|
 C.st 32 (Addr.mk b9 0 none) (.agg v95) <|
 C.ld .agg 2 (Addr.mk b8 0 none) fun z55 =>
 C.ld .agg 32 (Addr.mk b9 0 none) fun z56 =>
 C.ret (.tuple #[(.agg z55), (.agg z56), (.int .i64 0)])
 )
 ) fun jt =>
 C.draw <|
 C.ld .agg 32 (Addr.mk b14 0 none) fun v64 =>
 C.all [
 (C.call n_spec_l07Number [(.pointer (some x0)), (.slice r33.a r33.n r33.c), (.slice r21.a r21.n r21.c)] [(.int .i64)] fun r69 =>
 C.chk [⟨0, 32, (Addr.mk b14 0 none), .agg, v64⟩] <|
 C.pur (Instr.build ty_impl_Commit #[(0, (.agg v64)), (1, (.slice r21.a r21.n r21.c)), (2, (.int .i64 r69)), (3, (.string x3))]) .agg fun y71 =>
 C.new ty_impl_Commit (.agg (#[(.int .u8 0), (.int .u8 0), (.int .u8 0), (.int .u8 0), (.int .u8 0), (.int .u8 0), (.int .u8 0), (.int .u8 0), (.int .u8 0), (.int .u8 0), (.int .u8 0), (.int .u8 0), (.int .u8 0), (.int .u8 0), (.int .u8 0), (.int .u8 0), (.int .u8 0), (.int .u8 0), (.int .u8 0), (.int .u8 0), (.int .u8 0), (.int .u8 0), (.int .u8 0), (.int .u8 0), (.int .u8 0), (.int .u8 0), (.int .u8 0), (.int .u8 0), (.int .u8 0), (.int .u8 0), (.int .u8 0), (.int .u8 0), (.slice none 0 0), (.int .i64 0), (.string (⟨#[]⟩ : ByteArray))])) fun b16 =>
 C.chk [⟨0, 32, (Addr.mk b14 0 none), .agg, v64⟩] <|
 C.st 35 (Addr.mk b16 0 none) (.agg y71) <|
 jt [(.pointer (some (Addr.mk b16 0 none)))]),
 (C.new ty_impl_Commit (.agg (#[(.int .u8 0), (.int .u8 0), (.int .u8 0), (.int .u8 0), (.int .u8 0), (.int .u8 0), (.int .u8 0), (.int .u8 0), (.int .u8 0), (.int .u8 0), (.int .u8 0), (.int .u8 0), (.int .u8 0), (.int .u8 0), (.int .u8 0), (.int .u8 0), (.int .u8 0), (.int .u8 0), (.int .u8 0), (.int .u8 0), (.int .u8 0), (.int .u8 0), (.int .u8 0), (.int .u8 0), (.int .u8 0), (.int .u8 0), (.int .u8 0), (.int .u8 0), (.int .u8 0), (.int .u8 0), (.int .u8 0), (.int .u8 0), (.slice none 0 0), (.int .i64 0), (.string (⟨#[]⟩ : ByteArray))])) fun b16 =>
 C.chk [⟨0, 32, (Addr.mk b14 0 none), .agg, v64⟩] <|
 C.call n_spec_l07Number [(.pointer (some x0)), (.slice r33.a r33.n r33.c), (.slice r21.a r21.n r21.c)] [(.int .i64)] fun r69 =>
 C.chk [⟨0, 32, (Addr.mk b14 0 none), .agg, v64⟩] <|
 C.pur (Instr.build ty_impl_Commit #[(0, (.agg v64)), (1, (.slice r21.a r21.n r21.c)), (2, (.int .i64 r69)), (3, (.string x3))]) .agg fun y71 =>
 C.st 35 (Addr.mk b16 0 none) (.agg y71) <|
 jt [(.pointer (some (Addr.mk b16 0 none)))])]
 )
 )
 )
 ) fun jt =>
 cond (decide ((r21.n : Int) > 3)) (
 C.pur (Instr.build ty_impl_Book #[]) .agg fun y30 =>
 C.st 2 (Addr.mk b8 0 none) (.agg y30) <|
 C.st 32 (Addr.mk b9 0 none) (.agg (Array.replicate 32 (.int .u8 0))) <|
 C.ld .agg 2 (Addr.mk b8 0 none) fun z5 =>
 C.ld .agg 32 (Addr.mk b9 0 none) fun z6 =>
 C.ret (.tuple #[(.agg z5), (.agg z6), (.int .i64 2)])
 ) (
 cond (decide ((x3.size : Int) > 64)) (
 C.pur (Instr.build ty_impl_Book #[]) .agg fun y30 =>
 C.st 2 (Addr.mk b8 0 none) (.agg y30) <|
 C.st 32 (Addr.mk b9 0 none) (.agg (Array.replicate 32 (.int .u8 0))) <|
 C.ld .agg 2 (Addr.mk b8 0 none) fun z8 =>
 C.ld .agg 32 (Addr.mk b9 0 none) fun z9 =>
 C.ret (.tuple #[(.agg z8), (.agg z9), (.int .i64 2)])
 ) (
 jt []
 )
 )
theorem spec_l07Commit_eq (C : Comb) (x0 : Addr) (x1 : Sl) (x2 : Sl) (x3 : ByteArray) : fT C Tryz.prog ⟨[(6, [(13, (.int .i64))])], [(87, []), (46, [(16, .ptr)])], [15, 21, 22], []⟩ n_spec_l07Commit [(.pointer (some x0)), (.slice x1.a x1.n x1.c), (.slice x2.a x2.n x2.c), (.string x3)] = spec_l07Commit C x0 x1 x2 x3 := by kernel_rfl
theorem spec_l07Commit_calls {R : Value → World → Prop} {w : World} (x0 : Addr) (x1 : Sl) (x2 : Sl) (x3 : ByteArray) (h : (spec_l07Commit (real Tryz.prog R) x0 x1 x2 x3 : World → Prop) w) :
    Calls Tryz.prog n_spec_l07Commit [(.pointer (some x0)), (.slice x1.a x1.n x1.c), (.slice x2.a x2.n x2.c), (.string x3)].toArray w fun e w' => ∃ v, e = .returned v ∧ R v w' := fT_sound mixed ⟨[(6, [(13, (.int .i64))])], [(87, []), (46, [(16, .ptr)])], [15, 21, 22], []⟩ (by rw [spec_l07Commit_eq]; exact h)

end Go.Proofs.YtkifkdkjljcclaaGreat
