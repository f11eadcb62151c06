/- Printed by a program of this claim's author: each Go function as a Lean function over abstract combinators, and the equation that says that T makes it of the loaded code. -/
import Derived.Test.YtkifkdkjljcclaaGreatProg
import Derived.Test.YtkifkdkjljcclaaGreatPkLAnc08
namespace Go.Proofs.YtkifkdkjljcclaaGreat
open Go.Sx
def impl_MapNode_bytes (C : Comb) (x0 : Array Value) : C.St :=
 C.new ty_impl_MapNode (.agg x0) fun b1 =>
 C.draw <|
 C.sl (some ((Addr.mk b1 0 none).add 0)) 32 32 1 none none none fun y4 =>
 C.sl (some ((Addr.mk b1 0 none).add 32)) 32 32 1 none none none fun y6 =>
 C.ld .str 1 (((Addr.mk b1 0 none).add 64).add 0) fun v9 =>
 C.ld .str 1 (((Addr.mk b1 0 none).add 64).add 0) fun v15 =>
 C.ld .str 1 (((Addr.mk b1 0 none).add 64).add 1) fun v19 =>
 C.all [
 (C.sem (Instr.buildSlice ty_sl_uint8 1 #[(0, (.int .u8 (IntKind.wrap .u8 ((v9.size : Int)))))]) .slice fun y12 =>
 C.chk [⟨16, 1, (((Addr.mk b1 0 none).add 64).add 1), .str, v19⟩, ⟨12, 1, (((Addr.mk b1 0 none).add 64).add 0), .str, v15⟩, ⟨6, 1, (((Addr.mk b1 0 none).add 64).add 0), .str, v9⟩] <|
 C.all [
 (C.sem (convert ty_string ty_sl_uint8 (.string v15)) .slice fun y16 =>
 C.chk [⟨16, 1, (((Addr.mk b1 0 none).add 64).add 1), .str, v19⟩, ⟨6, 1, (((Addr.mk b1 0 none).add 64).add 0), .str, v9⟩] <|
 C.sem (convert ty_string ty_sl_uint8 (.string v19)) .slice fun y20 =>
 C.chk [⟨6, 1, (((Addr.mk b1 0 none).add 64).add 0), .str, v9⟩] <|
 C.sem (Instr.buildSlice ty_sl_sl_uint8 5 #[(0, (.slice y4.a y4.n y4.c)), (1, (.slice y6.a y6.n y6.c)), (2, (.slice y12.a y12.n y12.c)), (3, (.slice y16.a y16.n y16.c)), (4, (.slice y20.a y20.n y20.c))]) .slice fun y21 =>
 C.chk [⟨6, 1, (((Addr.mk b1 0 none).add 64).add 0), .str, v9⟩] <|
 C.call n_slices_Concat_sl_byte_byte [(.slice y21.a y21.n y21.c)] [.slice] fun r22 =>
 C.chk [⟨6, 1, (((Addr.mk b1 0 none).add 64).add 0), .str, v9⟩] <|
 C.ret (.slice r22.a r22.n r22.c)),
 (C.sem (convert ty_string ty_sl_uint8 (.string v19)) .slice fun y20 =>
 C.chk [⟨12, 1, (((Addr.mk b1 0 none).add 64).add 0), .str, v15⟩, ⟨6, 1, (((Addr.mk b1 0 none).add 64).add 0), .str, v9⟩] <|
 C.sem (convert ty_string ty_sl_uint8 (.string v15)) .slice fun y16 =>
 C.chk [⟨6, 1, (((Addr.mk b1 0 none).add 64).add 0), .str, v9⟩] <|
 C.sem (Instr.buildSlice ty_sl_sl_uint8 5 #[(0, (.slice y4.a y4.n y4.c)), (1, (.slice y6.a y6.n y6.c)), (2, (.slice y12.a y12.n y12.c)), (3, (.slice y16.a y16.n y16.c)), (4, (.slice y20.a y20.n y20.c))]) .slice fun y21 =>
 C.chk [⟨6, 1, (((Addr.mk b1 0 none).add 64).add 0), .str, v9⟩] <|
 C.call n_slices_Concat_sl_byte_byte [(.slice y21.a y21.n y21.c)] [.slice] fun r22 =>
 C.chk [⟨6, 1, (((Addr.mk b1 0 none).add 64).add 0), .str, v9⟩] <|
 C.ret (.slice r22.a r22.n r22.c))]),
 (C.sem (convert ty_string ty_sl_uint8 (.string v15)) .slice fun y16 =>
 C.chk [⟨16, 1, (((Addr.mk b1 0 none).add 64).add 1), .str, v19⟩, ⟨6, 1, (((Addr.mk b1 0 none).add 64).add 0), .str, v9⟩] <|
 C.all [
 (C.sem (Instr.buildSlice ty_sl_uint8 1 #[(0, (.int .u8 (IntKind.wrap .u8 ((v9.size : Int)))))]) .slice fun y12 =>
 C.chk [⟨16, 1, (((Addr.mk b1 0 none).add 64).add 1), .str, v19⟩, ⟨6, 1, (((Addr.mk b1 0 none).add 64).add 0), .str, v9⟩] <|
 C.sem (convert ty_string ty_sl_uint8 (.string v19)) .slice fun y20 =>
 C.chk [⟨6, 1, (((Addr.mk b1 0 none).add 64).add 0), .str, v9⟩] <|
 C.sem (Instr.buildSlice ty_sl_sl_uint8 5 #[(0, (.slice y4.a y4.n y4.c)), (1, (.slice y6.a y6.n y6.c)), (2, (.slice y12.a y12.n y12.c)), (3, (.slice y16.a y16.n y16.c)), (4, (.slice y20.a y20.n y20.c))]) .slice fun y21 =>
 C.chk [⟨6, 1, (((Addr.mk b1 0 none).add 64).add 0), .str, v9⟩] <|
 C.call n_slices_Concat_sl_byte_byte [(.slice y21.a y21.n y21.c)] [.slice] fun r22 =>
 C.chk [⟨6, 1, (((Addr.mk b1 0 none).add 64).add 0), .str, v9⟩] <|
 C.ret (.slice r22.a r22.n r22.c)),
 (C.sem (convert ty_string ty_sl_uint8 (.string v19)) .slice fun y20 =>
 C.chk [⟨6, 1, (((Addr.mk b1 0 none).add 64).add 0), .str, v9⟩] <|
 C.sem (Instr.buildSlice ty_sl_uint8 1 #[(0, (.int .u8 (IntKind.wrap .u8 ((v9.size : Int)))))]) .slice fun y12 =>
 C.chk [⟨6, 1, (((Addr.mk b1 0 none).add 64).add 0), .str, v9⟩] <|
 C.sem (Instr.buildSlice ty_sl_sl_uint8 5 #[(0, (.slice y4.a y4.n y4.c)), (1, (.slice y6.a y6.n y6.c)), (2, (.slice y12.a y12.n y12.c)), (3, (.slice y16.a y16.n y16.c)), (4, (.slice y20.a y20.n y20.c))]) .slice fun y21 =>
 C.chk [⟨6, 1, (((Addr.mk b1 0 none).add 64).add 0), .str, v9⟩] <|
 C.call n_slices_Concat_sl_byte_byte [(.slice y21.a y21.n y21.c)] [.slice] fun r22 =>
 C.chk [⟨6, 1, (((Addr.mk b1 0 none).add 64).add 0), .str, v9⟩] <|
 C.ret (.slice r22.a r22.n r22.c))]),
 (C.sem (convert ty_string ty_sl_uint8 (.string v19)) .slice fun y20 =>
 C.chk [⟨12, 1, (((Addr.mk b1 0 none).add 64).add 0), .str, v15⟩, ⟨6, 1, (((Addr.mk b1 0 none).add 64).add 0), .str, v9⟩] <|
 C.all [
 (C.sem (Instr.buildSlice ty_sl_uint8 1 #[(0, (.int .u8 (IntKind.wrap .u8 ((v9.size : Int)))))]) .slice fun y12 =>
 C.chk [⟨12, 1, (((Addr.mk b1 0 none).add 64).add 0), .str, v15⟩, ⟨6, 1, (((Addr.mk b1 0 none).add 64).add 0), .str, v9⟩] <|
 C.sem (convert ty_string ty_sl_uint8 (.string v15)) .slice fun y16 =>
 C.chk [⟨6, 1, (((Addr.mk b1 0 none).add 64).add 0), .str, v9⟩] <|
 C.sem (Instr.buildSlice ty_sl_sl_uint8 5 #[(0, (.slice y4.a y4.n y4.c)), (1, (.slice y6.a y6.n y6.c)), (2, (.slice y12.a y12.n y12.c)), (3, (.slice y16.a y16.n y16.c)), (4, (.slice y20.a y20.n y20.c))]) .slice fun y21 =>
 C.chk [⟨6, 1, (((Addr.mk b1 0 none).add 64).add 0), .str, v9⟩] <|
 C.call n_slices_Concat_sl_byte_byte [(.slice y21.a y21.n y21.c)] [.slice] fun r22 =>
 C.chk [⟨6, 1, (((Addr.mk b1 0 none).add 64).add 0), .str, v9⟩] <|
 C.ret (.slice r22.a r22.n r22.c)),
 (C.sem (convert ty_string ty_sl_uint8 (.string v15)) .slice fun y16 =>
 C.chk [⟨6, 1, (((Addr.mk b1 0 none).add 64).add 0), .str, v9⟩] <|
 C.sem (Instr.buildSlice ty_sl_uint8 1 #[(0, (.int .u8 (IntKind.wrap .u8 ((v9.size : Int)))))]) .slice fun y12 =>
 C.chk [⟨6, 1, (((Addr.mk b1 0 none).add 64).add 0), .str, v9⟩] <|
 C.sem (Instr.buildSlice ty_sl_sl_uint8 5 #[(0, (.slice y4.a y4.n y4.c)), (1, (.slice y6.a y6.n y6.c)), (2, (.slice y12.a y12.n y12.c)), (3, (.slice y16.a y16.n y16.c)), (4, (.slice y20.a y20.n y20.c))]) .slice fun y21 =>
 C.chk [⟨6, 1, (((Addr.mk b1 0 none).add 64).add 0), .str, v9⟩] <|
 C.call n_slices_Concat_sl_byte_byte [(.slice y21.a y21.n y21.c)] [.slice] fun r22 =>
 C.chk [⟨6, 1, (((Addr.mk b1 0 none).add 64).add 0), .str, v9⟩] <|
 C.ret (.slice r22.a r22.n r22.c))])]
theorem impl_MapNode_bytes_eq (C : Comb) (x0 : Array Value) : fT C Tryz.prog ⟨[], [], [1], []⟩ n_impl_MapNode_bytes [(.agg x0)] = impl_MapNode_bytes C x0 := by kernel_rfl
theorem impl_MapNode_bytes_calls {R : Value → World → Prop} {w : World} (x0 : Array Value) (h : (impl_MapNode_bytes (real Tryz.prog R) x0 : World → Prop) w) :
    Calls Tryz.prog n_impl_MapNode_bytes [(.agg x0)].toArray w fun e w' => ∃ v, e = .returned v ∧ R v w' := fT_sound mixed ⟨[], [], [1], []⟩ (by rw [impl_MapNode_bytes_eq]; exact h)

def impl_treeOf (C : Comb) (x0 : Sl) : C.St :=
 C.sem (Instr.buildSlice ty_sl_impl_Key 0 #[]) .slice fun y6 =>
 C.loop (TL [.slice, (.int .i64)]) (embL [.slice, (.int .i64)]) [(.slice y6.a y6.n y6.c), (.int .i64 0)] fun s2 ct2 => C.any fun _ =>
 cond (decide (s2.2 < (x0.n : Int))) (
 C.ix x0.a x0.n 2 s2.2 fun p11 =>
 C.ld .agg 2 p11 fun v12 =>
 C.new ty_impl_Entry (.agg (#[(.string (⟨#[]⟩ : ByteArray)), (.string (⟨#[]⟩ : ByteArray))])) fun b5 =>
 C.st 2 (Addr.mk b5 0 none) (.agg v12) <|
 C.ld .str 1 ((Addr.mk b5 0 none).add 0) fun v15 =>
 C.sem (convert ty_string ty_sl_uint8 (.string v15)) .slice fun y16 =>
 C.call n_impl_hash [(.int .u8 4), (.slice y16.a y16.n y16.c)] [.agg] fun r17 =>
 C.sem (Instr.buildSlice ty_sl_impl_Key 1 #[(0, (.agg r17))]) .slice fun y18 =>
 C.sem (Builtin.append_ #[ty_sl_impl_Key, ty_sl_impl_Key] ty_sl_impl_Key #[(.slice s2.1.a s2.1.n s2.1.c), (.slice y18.a y18.n y18.c)]) .slice fun y19 =>
 ct2 [(.slice y19.a y19.n y19.c), (.int .i64 (IntKind.wrap .i64 (s2.2 + 1)))]
 ) (
 C.call n_impl_grow [(.slice x0.a x0.n x0.c), (.slice s2.1.a s2.1.n s2.1.c)] [.optr] fun r23 =>
 C.ret (.pointer r23)
 )
theorem impl_treeOf_eq (C : Comb) (x0 : Sl) : fT C Tryz.prog ⟨[(3, [(3, .slice), (9, (.int .i64))])], [], [], []⟩ n_impl_treeOf [(.slice x0.a x0.n x0.c)] = impl_treeOf C x0 := by kernel_rfl
theorem impl_treeOf_calls {R : Value → World → Prop} {w : World} (x0 : Sl) (h : (impl_treeOf (real Tryz.prog R) x0 : World → Prop) w) :
    Calls Tryz.prog n_impl_treeOf [(.slice x0.a x0.n x0.c)].toArray w fun e w' => ∃ v, e = .returned v ∧ R v w' := fT_sound mixed ⟨[(3, [(3, .slice), (9, (.int .i64))])], [], [], []⟩ (by rw [impl_treeOf_eq]; exact h)

def ptr_impl_tree_key (C : Comb) (x0 : Option Addr) : C.St :=
 C.new ty_impl_Key (.agg (Array.replicate 32 (.int .u8 0))) fun b2 =>
 C.pur (eqB .eql ty_ptr_impl_tree (.tmp 3) (.const (.pointer none)) (.pointer x0) (.pointer none)) .bool fun y4 =>
 cond y4 (
 C.call n_impl_EmptyMapKey [] [.agg] fun r5 =>
 C.st 32 (Addr.mk b2 0 none) (.agg r5) <|
 C.ld .agg 32 (Addr.mk b2 0 none) fun z4 =>
 C.ret (.agg z4)
 ) (
 dpT C x0 fun a5 =>
 C.ld .agg 66 (a5.add 0) fun v9 =>
 C.call n_impl_MapNode_key [(.agg v9)] [.agg] fun r10 =>
 C.st 32 (Addr.mk b2 0 none) (.agg r10) <|
 C.ld .agg 32 (Addr.mk b2 0 none) fun z8 =>
 C.ret (.agg z8)
 )
theorem ptr_impl_tree_key_eq (C : Comb) (x0 : Option Addr) : fT C Tryz.prog ⟨[], [], [], []⟩ n_ptr_impl_tree_key [(.pointer x0)] = ptr_impl_tree_key C x0 := by kernel_rfl
theorem ptr_impl_tree_key_calls {R : Value → World → Prop} {w : World} (x0 : Option Addr) (h : (ptr_impl_tree_key (real Tryz.prog R) x0 : World → Prop) w) :
    Calls Tryz.prog n_ptr_impl_tree_key [(.pointer x0)].toArray w fun e w' => ∃ v, e = .returned v ∧ R v w' := fT_sound mixed ⟨[], [], [], []⟩ (by rw [ptr_impl_tree_key_eq]; exact h)

def spec_l04Ok (C : Comb) (x0 : Sl) : C.St :=
 C.loop (TL [(.int .i64)]) (embL [(.int .i64)]) [(.int .i64 0)] fun s1 ct1 => C.any fun _ =>
 cond (decide (s1 < (x0.n : Int))) (
 C.draw <|
 C.ix x0.a x0.n 2 s1 fun p12 =>
 C.callQ n_spec_l04Entry [(.pointer (some p12))] [.bool] fun r13 =>
 cond (!r13) (
 C.ret (.bool false)
 ) (
 cond (decide (s1 > 0)) (
 C.ix x0.a x0.n 2 (IntKind.wrap .i64 (s1 - 1)) fun p22 =>
 C.ld .str 1 (p22.add 0) fun v24 =>
 C.ix x0.a x0.n 2 s1 fun p27 =>
 C.ld .str 1 (p27.add 0) fun v29 =>
 C.pur (eqB .geq ty_string (.tmp 24) (.tmp 29) (.string v24) (.string v29)) .bool fun y30 =>
 cond y30 (
 C.ret (.bool false)
 ) (
 ct1 [(.int .i64 (IntKind.wrap .i64 (s1 + 1)))]
 )
 ) (
 ct1 [(.int .i64 (IntKind.wrap .i64 (s1 + 1)))]
 )
 )
 ) (
 C.ret (.bool (decide ((x0.n : Int) ≤ 64)))
 )
theorem spec_l04Ok_eq (C : Comb) (x0 : Sl) : fT C Tryz.prog ⟨[(2, [(3, (.int .i64))])], [], [], []⟩ n_spec_l04Ok [(.slice x0.a x0.n x0.c)] = spec_l04Ok C x0 := by kernel_rfl
theorem spec_l04Ok_calls {R : Value → World → Prop} {w : World} (x0 : Sl) (h : (spec_l04Ok (real Tryz.prog R) x0 : World → Prop) w) :
    Calls Tryz.prog n_spec_l04Ok [(.slice x0.a x0.n x0.c)].toArray w fun e w' => ∃ v, e = .returned v ∧ R v w' := fT_sound mixed ⟨[(2, [(3, (.int .i64))])], [], [], []⟩ (by rw [spec_l04Ok_eq]; exact h)

def spec_l04Nodes (C : Comb) (x0 : Sl) : C.St :=
 C.new ty_impl_Key (.agg (Array.replicate 32 (.int .u8 0))) fun b3 =>
 cond ((x0.n : Int) == 0) (
 C.sem (Instr.buildSlice ty_sl_impl_MapNode 0 #[]) .slice fun y14 =>
 C.call n_spec_l04Empty [] [.agg] fun r15 =>
 C.st 32 (Addr.mk b3 0 none) (.agg r15) <|
 C.ld .agg 32 (Addr.mk b3 0 none) fun z4 =>
 C.ret (.tuple #[(.slice y14.a y14.n y14.c), (.agg z4)])
 ) (
 C.call n_spec_l04Top [(.slice x0.a x0.n x0.c)] [(.int .i64)] fun r17 =>
 C.sl x0.a x0.n x0.c 2 none (some r17) none fun y21 =>
 C.call n_spec_l04Nodes [(.slice y21.a y21.n y21.c)] [.slice, .agg] fun r22 =>
 C.new ty_impl_Key (.agg (Array.replicate 32 (.int .u8 0))) fun b6 =>
 C.st 32 (Addr.mk b6 0 none) (.agg r22.2) <|
 C.sl x0.a x0.n x0.c 2 (some (IntKind.wrap .i64 (r17 + 1))) none none fun y29 =>
 C.call n_spec_l04Nodes [(.slice y29.a y29.n y29.c)] [.slice, .agg] fun r30 =>
 C.new ty_impl_Key (.agg (Array.replicate 32 (.int .u8 0))) fun b8 =>
 C.st 32 (Addr.mk b8 0 none) (.agg r30.2) <|
 C.join (TL [.ptr]) (embL [.ptr]) (fun s18 => C.any fun _ =>
 C.ld .agg 66 s18 fun v40 =>
 C.sem (Instr.buildSlice ty_sl_impl_MapNode 1 #[(0, (.agg v40))]) .slice fun y41 =>
 C.sem (Builtin.append_ #[ty_sl_impl_MapNode, ty_sl_impl_MapNode] ty_sl_impl_MapNode #[(.slice y41.a y41.n y41.c), (.slice r22.1.a r22.1.n r22.1.c)]) .slice fun y43 =>
 C.sem (Builtin.append_ #[ty_sl_impl_MapNode, ty_sl_impl_MapNode] ty_sl_impl_MapNode #[(.slice y43.a y43.n y43.c), (.slice r30.1.a r30.1.n r30.1.c)]) .slice fun y46 =>
 C.call n_spec_l04NodeKey [(.pointer (some s18))] [.agg] fun r47 =>
 C.st 32 (Addr.mk b3 0 none) (.agg r47) <|
 C.ld .agg 32 (Addr.mk b3 0 none) fun z24 =>
 C.ret (.tuple #[(.slice y46.a y46.n y46.c), (.agg z24)])
 ) fun jt =>
 C.draw <|
 C.ld .agg 32 (Addr.mk b6 0 none) fun v33 =>
 C.ld .agg 32 (Addr.mk b8 0 none) fun v34 =>
 C.ix x0.a x0.n 2 r17 fun p37 =>
 C.ld .agg 2 p37 fun v38 =>
 C.pur (Instr.build ty_impl_MapNode #[(0, (.agg v33)), (1, (.agg v34)), (2, (.agg v38))]) .agg fun y39 =>
 C.new ty_impl_MapNode (.agg (#[(.int .u8 0), (.int .u8 0), (.int .u8 0), (.int .u8 0), (.int .u8 0), (.int .u8 0), (.int .u8 0), (.int .u8 0), (.int .u8 0), (.int .u8 0), (.int .u8 0), (.int .u8 0), (.int .u8 0), (.int .u8 0), (.int .u8 0), (.int .u8 0), (.int .u8 0), (.int .u8 0), (.int .u8 0), (.int .u8 0), (.int .u8 0), (.int .u8 0), (.int .u8 0), (.int .u8 0), (.int .u8 0), (.int .u8 0), (.int .u8 0), (.int .u8 0), (.int .u8 0), (.int .u8 0), (.int .u8 0), (.int .u8 0), (.int .u8 0), (.int .u8 0), (.int .u8 0), (.int .u8 0), (.int .u8 0), (.int .u8 0), (.int .u8 0), (.int .u8 0), (.int .u8 0), (.int .u8 0), (.int .u8 0), (.int .u8 0), (.int .u8 0), (.int .u8 0), (.int .u8 0), (.int .u8 0), (.int .u8 0), (.int .u8 0), (.int .u8 0), (.int .u8 0), (.int .u8 0), (.int .u8 0), (.int .u8 0), (.int .u8 0), (.int .u8 0), (.int .u8 0), (.int .u8 0), (.int .u8 0), (.int .u8 0), (.int .u8 0), (.int .u8 0), (.int .u8 0), (.string (⟨#[]⟩ : ByteArray)), (.string (⟨#[]⟩ : ByteArray))])) fun b9 =>
 C.chk [⟨5, 2, p37, .agg, v38⟩, ⟨1, 32, (Addr.mk b8 0 none), .agg, v34⟩, ⟨0, 32, (Addr.mk b6 0 none), .agg, v33⟩] <|
 C.st 66 (Addr.mk b9 0 none) (.agg y39) <|
 jt [(.pointer (some (Addr.mk b9 0 none)))]
 )
theorem spec_l04Nodes_eq (C : Comb) (x0 : Sl) : fT C Tryz.prog ⟨[], [(19, [(9, .ptr)])], [6], []⟩ n_spec_l04Nodes [(.slice x0.a x0.n x0.c)] = spec_l04Nodes C x0 := by kernel_rfl
theorem spec_l04Nodes_calls {R : Value → World → Prop} {w : World} (x0 : Sl) (h : (spec_l04Nodes (real Tryz.prog R) x0 : World → Prop) w) :
    Calls Tryz.prog n_spec_l04Nodes [(.slice x0.a x0.n x0.c)].toArray w fun e w' => ∃ v, e = .returned v ∧ R v w' := fT_sound mixed ⟨[], [(19, [(9, .ptr)])], [6], []⟩ (by rw [spec_l04Nodes_eq]; exact h)

def spec_l04Bytes (C : Comb) (x0 : Addr) : C.St :=
 C.sem (Instr.buildSlice ty_sl_uint8 0 #[]) .slice fun y6 =>
 C.loop (TL [.slice, (.int .i64)]) (embL [.slice, (.int .i64)]) [(.slice y6.a y6.n y6.c), (.int .i64 0)] fun s2 ct2 => C.any fun _ =>
 cond (decide (s2.2 < 32)) (
 C.ix (some (x0.add 0)) 32 1 s2.2 fun p16 =>
 C.ld (.int .u8) 1 p16 fun v17 =>
 C.sem (Instr.buildSlice ty_sl_uint8 1 #[(0, (.int .u8 v17))]) .slice fun y18 =>
 C.sem (Builtin.append_ #[ty_sl_uint8, ty_sl_uint8] ty_sl_uint8 #[(.slice s2.1.a s2.1.n s2.1.c), (.slice y18.a y18.n y18.c)]) .slice fun y19 =>
 ct2 [(.slice y19.a y19.n y19.c), (.int .i64 (IntKind.wrap .i64 (s2.2 + 1)))]
 ) (
 C.loop (TL [.slice, (.int .i64)]) (embL [.slice, (.int .i64)]) [(.slice s2.1.a s2.1.n s2.1.c), (.int .i64 0)] fun s7 ct7 => C.any fun _ =>
 cond (decide (s7.2 < 32)) (
 C.ix (some (x0.add 32)) 32 1 s7.2 fun p29 =>
 C.ld (.int .u8) 1 p29 fun v30 =>
 C.sem (Instr.buildSlice ty_sl_uint8 1 #[(0, (.int .u8 v30))]) .slice fun y31 =>
 C.sem (Builtin.append_ #[ty_sl_uint8, ty_sl_uint8] ty_sl_uint8 #[(.slice s7.1.a s7.1.n s7.1.c), (.slice y31.a y31.n y31.c)]) .slice fun y32 =>
 ct7 [(.slice y32.a y32.n y32.c), (.int .i64 (IntKind.wrap .i64 (s7.2 + 1)))]
 ) (
 C.ld .str 1 ((x0.add 64).add 0) fun v38 =>
 C.sem (Instr.buildSlice ty_sl_uint8 1 #[(0, (.int .u8 (IntKind.wrap .u8 ((v38.size : Int)))))]) .slice fun y41 =>
 C.sem (Builtin.append_ #[ty_sl_uint8, ty_sl_uint8] ty_sl_uint8 #[(.slice s7.1.a s7.1.n s7.1.c), (.slice y41.a y41.n y41.c)]) .slice fun y42 =>
 C.ld .str 1 ((x0.add 64).add 0) fun v48 =>
 C.sem (convert ty_string ty_sl_uint8 (.string v48)) .slice fun y49 =>
 C.sem (Builtin.append_ #[ty_sl_uint8, ty_sl_uint8] ty_sl_uint8 #[(.slice y42.a y42.n y42.c), (.slice y49.a y49.n y49.c)]) .slice fun y50 =>
 C.ld .str 1 ((x0.add 64).add 1) fun v56 =>
 C.sem (convert ty_string ty_sl_uint8 (.string v56)) .slice fun y57 =>
 C.sem (Builtin.append_ #[ty_sl_uint8, ty_sl_uint8] ty_sl_uint8 #[(.slice y50.a y50.n y50.c), (.slice y57.a y57.n y57.c)]) .slice fun y58 =>
 C.ret (.slice y58.a y58.n y58.c)
 )
 )
theorem spec_l04Bytes_eq (C : Comb) (x0 : Addr) : fT C Tryz.prog ⟨[(3, [(3, .slice), (4, (.int .i64))]), (7, [(3, .slice), (5, (.int .i64))])], [], [], []⟩ n_spec_l04Bytes [(.pointer (some x0))] = spec_l04Bytes C x0 := by kernel_rfl
theorem spec_l04Bytes_calls {R : Value → World → Prop} {w : World} (x0 : Addr) (h : (spec_l04Bytes (real Tryz.prog R) x0 : World → Prop) w) :
    Calls Tryz.prog n_spec_l04Bytes [(.pointer (some x0))].toArray w fun e w' => ∃ v, e = .returned v ∧ R v w' := fT_sound mixed ⟨[(3, [(3, .slice), (4, (.int .i64))]), (7, [(3, .slice), (5, (.int .i64))])], [], [], []⟩ (by rw [spec_l04Bytes_eq]; exact h)

def ptr_spec_l00Src_next (C : Comb) (x0 : Addr) : C.St :=
 C.join (TL [(.int .i64)]) (embL [(.int .i64)]) (fun s7 => C.any fun _ =>
 C.ld (.int .i64) 1 (x0.add 1) fun v28 =>
 C.st 1 (x0.add 1) (.int .i64 (IntKind.wrap .i64 (v28 + 1))) <|
 C.ld (.int .u64) 1 (x0.add 2) fun v36 =>
 C.st 1 (x0.add 2) (.int .u64 (IntKind.wrap .u64 ((IntKind.wrap .u64 ((IntKind.wrap .u64 (v36 * 6364136223846793005)) + (IntKind.wrap .u64 (s7)))) + 1442695040888963407))) <|
 C.draw <|
 C.ld (.int .i64) 1 (x0.add 1) fun v47 =>
 C.ld .slice 1 (x0.add 0) fun v51 =>
 cond (decide (v47 ≤ (v51.n : Int))) (
 C.ret (.int .i64 s7)
 ) (
 C.ld (.int .u64) 1 (x0.add 2) fun v58 =>
 C.ret (.int .i64 (IntKind.wrap .i64 ((bitsI .and .u64 (Int.fdiv v58 (2 ^ 40)) 255))))
 )
 ) fun jt =>
 C.draw <|
 C.ld (.int .i64) 1 (x0.add 1) fun v7 =>
 C.ld .slice 1 (x0.add 0) fun v11 =>
 cond (decide (v7 < (v11.n : Int))) (
 C.draw <|
 C.ld .slice 1 (x0.add 0) fun v17 =>
 C.ld (.int .i64) 1 (x0.add 1) fun v21 =>
 C.ix v17.a v17.n 1 v21 fun p22 =>
 C.ld (.int .u8) 1 p22 fun v23 =>
 jt [(.int .i64 (IntKind.wrap .i64 (v23)))]
 ) (
 jt [(.int .i64 0)]
 )
theorem ptr_spec_l00Src_next_eq (C : Comb) (x0 : Addr) : fT C Tryz.prog ⟨[], [(39, [(3, (.int .i64))])], [], []⟩ n_ptr_spec_l00Src_next [(.pointer (some x0))] = ptr_spec_l00Src_next C x0 := by kernel_rfl
theorem ptr_spec_l00Src_next_calls {R : Value → World → Prop} {w : World} (x0 : Addr) (h : (ptr_spec_l00Src_next (real Tryz.prog R) x0 : World → Prop) w) :
    Calls Tryz.prog n_ptr_spec_l00Src_next [(.pointer (some x0))].toArray w fun e w' => ∃ v, e = .returned v ∧ R v w' := fT_sound mixed ⟨[], [(39, [(3, (.int .i64))])], [], []⟩ (by rw [ptr_spec_l00Src_next_eq]; exact h)

def impl_appendLittle (C : Comb) (x0 : Sl) (x1 : Int) (x2 : Int) : C.St :=
 C.loop (TL [.slice, (.int .i64)]) (embL [.slice, (.int .i64)]) [(.slice x0.a x0.n x0.c), (.int .i64 0)] fun s1 ct1 => C.any fun _ =>
 cond (decide (s1.2 < x2)) (
 C.pur (eqB .shr ty_uint64 (.tmp 13) (.tmp 15) (.int .u64 x1) (.int .i64 (IntKind.wrap .i64 (8 * s1.2)))) (.int .u64) fun y16 =>
 C.sem (Instr.buildSlice ty_sl_uint8 1 #[(0, (.int .u8 (IntKind.wrap .u8 (y16))))]) .slice fun y18 =>
 C.sem (Builtin.append_ #[ty_sl_uint8, ty_sl_uint8] ty_sl_uint8 #[(.slice s1.1.a s1.1.n s1.1.c), (.slice y18.a y18.n y18.c)]) .slice fun y19 =>
 ct1 [(.slice y19.a y19.n y19.c), (.int .i64 (IntKind.wrap .i64 (s1.2 + 1)))]
 ) (
 C.ret (.slice s1.1.a s1.1.n s1.1.c)
 )
theorem impl_appendLittle_eq (C : Comb) (x0 : Sl) (x1 : Int) (x2 : Int) : fT C Tryz.prog ⟨[(2, [(0, .slice), (9, (.int .i64))])], [], [], []⟩ n_impl_appendLittle [(.slice x0.a x0.n x0.c), (.int .u64 x1), (.int .i64 x2)] = impl_appendLittle C x0 x1 x2 := by kernel_rfl
theorem impl_appendLittle_calls {R : Value → World → Prop} {w : World} (x0 : Sl) (x1 : Int) (x2 : Int) (h : (impl_appendLittle (real Tryz.prog R) x0 x1 x2 : World → Prop) w) :
    Calls Tryz.prog n_impl_appendLittle [(.slice x0.a x0.n x0.c), (.int .u64 x1), (.int .i64 x2)].toArray w fun e w' => ∃ v, e = .returned v ∧ R v w' := fT_sound mixed ⟨[(2, [(0, .slice), (9, (.int .i64))])], [], [], []⟩ (by rw [impl_appendLittle_eq]; exact h)

def impl_hash (C : Comb) (x0 : Int) (x1 : Sl) : C.St :=
 C.new ty_impl_Key (.agg (Array.replicate 32 (.int .u8 0))) fun b4 =>
 C.call n_impl_size_byte [(.slice x1.a x1.n x1.c)] [(.int .i64)] fun r10 =>
 C.call n_impl_padding [(.int .i64 r10)] [.slice] fun r11 =>
 C.sem (Instr.buildSlice ty_sl_sl_uint8 2 #[(0, (.slice x1.a x1.n x1.c)), (1, (.slice r11.a r11.n r11.c))]) .slice fun y12 =>
 C.call n_slices_Concat_sl_byte_byte [(.slice y12.a y12.n y12.c)] [.slice] fun r13 =>
 C.call n_impl_blocks [(.slice r13.a r13.n r13.c)] [.slice, .slice] fun r14 =>
 C.call n_impl_StartState [(.int .u8 x0)] [.agg] fun r18 =>
 C.call n_impl_mixed [(.agg r18), (.slice r14.1.a r14.1.n r14.1.c)] [.agg] fun r20 =>
 C.call n_impl_keyOf [(.agg r20)] [.agg] fun r21 =>
 C.st 32 (Addr.mk b4 0 none) (.agg r21) <|
 C.ld .agg 32 (Addr.mk b4 0 none) fun z10 =>
 C.ret (.agg z10)
theorem impl_hash_eq (C : Comb) (x0 : Int) (x1 : Sl) : fT C Tryz.prog ⟨[], [], [], []⟩ n_impl_hash [(.int .u8 x0), (.slice x1.a x1.n x1.c)] = impl_hash C x0 x1 := by kernel_rfl
theorem impl_hash_calls {R : Value → World → Prop} {w : World} (x0 : Int) (x1 : Sl) (h : (impl_hash (real Tryz.prog R) x0 x1 : World → Prop) w) :
    Calls Tryz.prog n_impl_hash [(.int .u8 x0), (.slice x1.a x1.n x1.c)].toArray w fun e w' => ∃ v, e = .returned v ∧ R v w' := fT_sound mixed ⟨[], [], [], []⟩ (by rw [impl_hash_eq]; exact h)

def ptr_spec_l00Src_text (C : Comb) (x0 : Addr) (x1 : Sl) : C.St :=
 C.call n_ptr_spec_l00Src_pick [(.pointer (some x0)), (.int .i64 (x1.n : Int))] [(.int .i64)] fun r9 =>
 C.ix x1.a x1.n 1 r9 fun p10 =>
 C.ld .str 1 p10 fun v11 =>
 C.ret (.string v11)
theorem ptr_spec_l00Src_text_eq (C : Comb) (x0 : Addr) (x1 : Sl) : fT C Tryz.prog ⟨[], [], [], []⟩ n_ptr_spec_l00Src_text [(.pointer (some x0)), (.slice x1.a x1.n x1.c)] = ptr_spec_l00Src_text C x0 x1 := by kernel_rfl
theorem ptr_spec_l00Src_text_calls {R : Value → World → Prop} {w : World} (x0 : Addr) (x1 : Sl) (h : (ptr_spec_l00Src_text (real Tryz.prog R) x0 x1 : World → Prop) w) :
    Calls Tryz.prog n_ptr_spec_l00Src_text [(.pointer (some x0)), (.slice x1.a x1.n x1.c)].toArray w fun e w' => ∃ v, e = .returned v ∧ R v w' := fT_sound mixed ⟨[], [], [], []⟩ (by rw [ptr_spec_l00Src_text_eq]; exact h)

def ptr_impl_ledger_find (C : Comb) (x0 : Addr) (x1 : Array Value) : C.St :=
 C.new ty_impl_Key (.agg x1) fun b3 =>
 C.draw <|
 C.ld .slice 1 (x0.add 2) fun v10 =>
 C.ld .agg 32 (Addr.mk b3 0 none) fun v11 =>
 C.call n_slices_Index_sl_impl_Key_impl_Key [(.slice v10.a v10.n v10.c), (.agg v11)] [(.int .i64)] fun r12 =>
 C.ret (.tuple #[(.int .i64 r12), (.bool (decide (r12 ≥ 0)))])
theorem ptr_impl_ledger_find_eq (C : Comb) (x0 : Addr) (x1 : Array Value) : fT C Tryz.prog ⟨[], [], [1], []⟩ n_ptr_impl_ledger_find [(.pointer (some x0)), (.agg x1)] = ptr_impl_ledger_find C x0 x1 := by kernel_rfl
theorem ptr_impl_ledger_find_calls {R : Value → World → Prop} {w : World} (x0 : Addr) (x1 : Array Value) (h : (ptr_impl_ledger_find (real Tryz.prog R) x0 x1 : World → Prop) w) :
    Calls Tryz.prog n_ptr_impl_ledger_find [(.pointer (some x0)), (.agg x1)].toArray w fun e w' => ∃ v, e = .returned v ∧ R v w' := fT_sound mixed ⟨[], [], [1], []⟩ (by rw [ptr_impl_ledger_find_eq]; exact h)

def slices_Compact_sl_impl_Key_impl_Key (C : Comb) (x0 : Sl) : C.St :=
 cond (decide ((x0.n : Int) < 2)) (
 C.ret (.slice x0.a x0.n x0.c)
 ) (
 C.loop (TL [(.int .i64)]) (embL [(.int .i64)]) [(.int .i64 1)] fun s1 ct1 => C.any fun _ =>
 cond (decide (s1 < (x0.n : Int))) (
 C.draw <|
 C.ix x0.a x0.n 32 s1 fun p18 =>
 C.ld .agg 32 p18 fun v19 =>
 C.ix x0.a x0.n 32 (IntKind.wrap .i64 (s1 - 1)) fun p23 =>
 C.ld .agg 32 p23 fun v24 =>
 C.pur (eqB .eql ty_impl_Key (.tmp 19) (.tmp 24) (.agg v19) (.agg v24)) .bool fun y25 =>
 cond y25 (
 C.sl x0.a x0.n x0.c 32 (some s1) none none fun y28 =>
 C.loop (TL [(.int .i64), (.int .i64)]) (embL [(.int .i64), (.int .i64)]) [(.int .i64 s1), (.int .i64 1)] fun s8 ct8 => C.any fun _ =>
 cond (decide (s8.2 < (y28.n : Int))) (
 C.draw <|
 C.ix y28.a y28.n 32 s8.2 fun p37 =>
 C.ld .agg 32 p37 fun v38 =>
 C.ix y28.a y28.n 32 (IntKind.wrap .i64 (s8.2 - 1)) fun p42 =>
 C.ld .agg 32 p42 fun v43 =>
 C.pur (eqB .neq ty_impl_Key (.tmp 38) (.tmp 43) (.agg v38) (.agg v43)) .bool fun y44 =>
 cond y44 (
 C.ix y28.a y28.n 32 s8.2 fun p49 =>
 C.ld .agg 32 p49 fun v50 =>
 C.ix x0.a x0.n 32 s8.1 fun p51 =>
 C.st 32 p51 (.agg v50) <|
 ct8 [(.int .i64 (IntKind.wrap .i64 (s8.1 + 1))), (.int .i64 (IntKind.wrap .i64 (s8.2 + 1)))]
 ) (
 ct8 [(.int .i64 s8.1), (.int .i64 (IntKind.wrap .i64 (s8.2 + 1)))]
 )
 ) (
 C.sl x0.a x0.n x0.c 32 (some s8.1) none none fun y56 =>
 C.sem (Builtin.clear_ #[ty_sl_impl_Key] ty_x #[(.slice y56.a y56.n y56.c)]) .val fun yq18 =>
 C.sl x0.a x0.n x0.c 32 none (some s8.1) none fun y59 =>
 C.ret (.slice y59.a y59.n y59.c)
 )
 ) (
 ct1 [(.int .i64 (IntKind.wrap .i64 (s1 + 1)))]
 )
 ) (
 C.ret (.slice x0.a x0.n x0.c)
 )
 )
theorem slices_Compact_sl_impl_Key_impl_Key_eq (C : Comb) (x0 : Sl) : fT C Tryz.prog ⟨[(4, [(3, (.int .i64))]), (9, [(3, (.int .i64)), (5, (.int .i64))])], [], [], []⟩ n_slices_Compact_sl_impl_Key_impl_Key [(.slice x0.a x0.n x0.c)] = slices_Compact_sl_impl_Key_impl_Key C x0 := by kernel_rfl
theorem slices_Compact_sl_impl_Key_impl_Key_calls {R : Value → World → Prop} {w : World} (x0 : Sl) (h : (slices_Compact_sl_impl_Key_impl_Key (real Tryz.prog R) x0 : World → Prop) w) :
    Calls Tryz.prog n_slices_Compact_sl_impl_Key_impl_Key [(.slice x0.a x0.n x0.c)].toArray w fun e w' => ∃ v, e = .returned v ∧ R v w' := fT_sound mixed ⟨[(4, [(3, (.int .i64))]), (9, [(3, (.int .i64)), (5, (.int .i64))])], [], [], []⟩ (by rw [slices_Compact_sl_impl_Key_impl_Key_eq]; exact h)

def slices_IndexFunc_sl_impl_Key_impl_Key (C : Comb) (x0 : Sl) (x1 : Value) : C.St :=
 C.loop (TL [(.int .i64)]) (embL [(.int .i64)]) [(.int .i64 0)] fun s1 ct1 => C.any fun _ =>
 cond (decide (s1 < (x0.n : Int))) (
 C.ix x0.a x0.n 32 s1 fun p14 =>
 C.ld .agg 32 p14 fun v15 =>
 C.callV x1 [(.agg v15)] [.bool] fun r16 =>
 cond r16 (
 C.ret (.int .i64 s1)
 ) (
 ct1 [(.int .i64 (IntKind.wrap .i64 (s1 + 1)))]
 )
 ) (
 C.ret (.int .i64 (-1))
 )
theorem slices_IndexFunc_sl_impl_Key_impl_Key_eq (C : Comb) (x0 : Sl) (x1 : Value) : fT C Tryz.prog ⟨[(2, [(8, (.int .i64))])], [], [], []⟩ n_slices_IndexFunc_sl_impl_Key_impl_Key [(.slice x0.a x0.n x0.c), x1] = slices_IndexFunc_sl_impl_Key_impl_Key C x0 x1 := by kernel_rfl
theorem slices_IndexFunc_sl_impl_Key_impl_Key_calls {R : Value → World → Prop} {w : World} (x0 : Sl) (x1 : Value) (h : (slices_IndexFunc_sl_impl_Key_impl_Key (real Tryz.prog R) x0 x1 : World → Prop) w) :
    Calls Tryz.prog n_slices_IndexFunc_sl_impl_Key_impl_Key [(.slice x0.a x0.n x0.c), x1].toArray w fun e w' => ∃ v, e = .returned v ∧ R v w' := fT_sound mixed ⟨[(2, [(8, (.int .i64))])], [], [], []⟩ (by rw [slices_IndexFunc_sl_impl_Key_impl_Key_eq]; exact h)

def slices_IndexFunc_sl_impl_Commit_impl_Commit (C : Comb) (x0 : Sl) (x1 : Value) : C.St :=
 C.loop (TL [(.int .i64)]) (embL [(.int .i64)]) [(.int .i64 0)] fun s1 ct1 => C.any fun _ =>
 cond (decide (s1 < (x0.n : Int))) (
 C.ix x0.a x0.n 35 s1 fun p14 =>
 C.ld .agg 35 p14 fun v15 =>
 C.callV x1 [(.agg v15)] [.bool] fun r16 =>
 cond r16 (
 C.ret (.int .i64 s1)
 ) (
 ct1 [(.int .i64 (IntKind.wrap .i64 (s1 + 1)))]
 )
 ) (
 C.ret (.int .i64 (-1))
 )
theorem slices_IndexFunc_sl_impl_Commit_impl_Commit_eq (C : Comb) (x0 : Sl) (x1 : Value) : fT C Tryz.prog ⟨[(2, [(8, (.int .i64))])], [], [], []⟩ n_slices_IndexFunc_sl_impl_Commit_impl_Commit [(.slice x0.a x0.n x0.c), x1] = slices_IndexFunc_sl_impl_Commit_impl_Commit C x0 x1 := by kernel_rfl
theorem slices_IndexFunc_sl_impl_Commit_impl_Commit_calls {R : Value → World → Prop} {w : World} (x0 : Sl) (x1 : Value) (h : (slices_IndexFunc_sl_impl_Commit_impl_Commit (real Tryz.prog R) x0 x1 : World → Prop) w) :
    Calls Tryz.prog n_slices_IndexFunc_sl_impl_Commit_impl_Commit [(.slice x0.a x0.n x0.c), x1].toArray w fun e w' => ∃ v, e = .returned v ∧ R v w' := fT_sound mixed ⟨[(2, [(8, (.int .i64))])], [], [], []⟩ (by rw [slices_IndexFunc_sl_impl_Commit_impl_Commit_eq]; exact h)

def slices_Index_sl_impl_Key_impl_Key (C : Comb) (x0 : Sl) (x1 : Array Value) : C.St :=
 C.new ty_impl_Key (.agg x1) fun b3 =>
 C.loop (TL [(.int .i64)]) (embL [(.int .i64)]) [(.int .i64 0)] fun s2 ct2 => C.any fun _ =>
 cond (decide (s2 < (x0.n : Int))) (
 C.draw <|
 C.ld .agg 32 (Addr.mk b3 0 none) fun v11 =>
 C.ix x0.a x0.n 32 s2 fun p14 =>
 C.ld .agg 32 p14 fun v15 =>
 C.pur (eqB .eql ty_impl_Key (.tmp 11) (.tmp 15) (.agg v11) (.agg v15)) .bool fun y16 =>
 cond y16 (
 C.ret (.int .i64 s2)
 ) (
 ct2 [(.int .i64 (IntKind.wrap .i64 (s2 + 1)))]
 )
 ) (
 C.ret (.int .i64 (-1))
 )
theorem slices_Index_sl_impl_Key_impl_Key_eq (C : Comb) (x0 : Sl) (x1 : Array Value) : fT C Tryz.prog ⟨[(2, [(8, (.int .i64))])], [], [], []⟩ n_slices_Index_sl_impl_Key_impl_Key [(.slice x0.a x0.n x0.c), (.agg x1)] = slices_Index_sl_impl_Key_impl_Key C x0 x1 := by kernel_rfl
theorem slices_Index_sl_impl_Key_impl_Key_calls {R : Value → World → Prop} {w : World} (x0 : Sl) (x1 : Array Value) (h : (slices_Index_sl_impl_Key_impl_Key (real Tryz.prog R) x0 x1 : World → Prop) w) :
    Calls Tryz.prog n_slices_Index_sl_impl_Key_impl_Key [(.slice x0.a x0.n x0.c), (.agg x1)].toArray w fun e w' => ∃ v, e = .returned v ∧ R v w' := fT_sound mixed ⟨[(2, [(8, (.int .i64))])], [], [], []⟩ (by rw [slices_Index_sl_impl_Key_impl_Key_eq]; exact h)

def spec_l00In (C : Comb) (x0 : Int) (x1 : Int) (x2 : Int) : C.St :=
 cond (decide (x0 ≥ x1)) (
 C.ret (.bool (decide (x0 ≤ x2)))
 ) (
 C.ret (.bool false)
 )
theorem spec_l00In_eq (C : Comb) (x0 : Int) (x1 : Int) (x2 : Int) : fT C Tryz.prog ⟨[], [], [], []⟩ n_spec_l00In [(.int .i64 x0), (.int .i64 x1), (.int .i64 x2)] = spec_l00In C x0 x1 x2 := by kernel_rfl
theorem spec_l00In_calls {R : Value → World → Prop} {w : World} (x0 : Int) (x1 : Int) (x2 : Int) (h : (spec_l00In (real Tryz.prog R) x0 x1 x2 : World → Prop) w) :
    Calls Tryz.prog n_spec_l00In [(.int .i64 x0), (.int .i64 x1), (.int .i64 x2)].toArray w fun e w' => ∃ v, e = .returned v ∧ R v w' := fT_sound mixed ⟨[], [], [], []⟩ (by rw [spec_l00In_eq]; exact h)

def spec_l07Data (C : Comb) (x0 : Addr) : C.St :=
 C.join (TL [.slice]) (embL [.slice]) (fun s5 => C.any fun _ =>
 C.loop (TL [.slice, (.int .i64)]) (embL [.slice, (.int .i64)]) [(.slice s5.a s5.n s5.c), (.int .i64 0)] fun s6 ct6 => C.any fun _ =>
 C.ld .slice 1 (x0.add 32) fun v22 =>
 cond (decide (s6.2 < (v22.n : Int))) (
 C.ld .slice 1 (x0.add 32) fun v31 =>
 C.ix v31.a v31.n 32 s6.2 fun p33 =>
 C.ld .agg 32 p33 fun v34 =>
 C.call n_spec_l07Add [(.slice s6.1.a s6.1.n s6.1.c), (.agg v34)] [.slice] fun r35 =>
 ct6 [(.slice r35.a r35.n r35.c), (.int .i64 (IntKind.wrap .i64 (s6.2 + 1)))]
 ) (
 C.draw <|
 C.ld (.int .i64) 1 (x0.add 33) fun v40 =>
 C.ld .str 1 (x0.add 34) fun v47 =>
 C.all [
 (C.sem (Instr.buildSlice ty_sl_uint8 1 #[(0, (.int .u8 (IntKind.wrap .u8 (v40))))]) .slice fun y42 =>
 C.chk [⟨11, 1, (x0.add 34), .str, v47⟩, ⟨4, 1, (x0.add 33), (.int .i64), v40⟩] <|
 C.all [
 (C.sem (Builtin.append_ #[ty_sl_uint8, ty_sl_uint8] ty_sl_uint8 #[(.slice s6.1.a s6.1.n s6.1.c), (.slice y42.a y42.n y42.c)]) .slice fun y43 =>
 C.chk [⟨11, 1, (x0.add 34), .str, v47⟩, ⟨4, 1, (x0.add 33), (.int .i64), v40⟩] <|
 C.sem (convert ty_string ty_sl_uint8 (.string v47)) .slice fun y48 =>
 C.chk [⟨4, 1, (x0.add 33), (.int .i64), v40⟩] <|
 C.sem (Builtin.append_ #[ty_sl_uint8, ty_sl_uint8] ty_sl_uint8 #[(.slice y43.a y43.n y43.c), (.slice y48.a y48.n y48.c)]) .slice fun y49 =>
 C.chk [⟨4, 1, (x0.add 33), (.int .i64), v40⟩] <|
 C.ret (.slice y49.a y49.n y49.c)),
 (C.sem (convert ty_string ty_sl_uint8 (.string v47)) .slice fun y48 =>
 C.chk [⟨4, 1, (x0.add 33), (.int .i64), v40⟩] <|
 C.sem (Builtin.append_ #[ty_sl_uint8, ty_sl_uint8] ty_sl_uint8 #[(.slice s6.1.a s6.1.n s6.1.c), (.slice y42.a y42.n y42.c)]) .slice fun y43 =>
 C.chk [⟨4, 1, (x0.add 33), (.int .i64), v40⟩] <|
 C.sem (Builtin.append_ #[ty_sl_uint8, ty_sl_uint8] ty_sl_uint8 #[(.slice y43.a y43.n y43.c), (.slice y48.a y48.n y48.c)]) .slice fun y49 =>
 C.chk [⟨4, 1, (x0.add 33), (.int .i64), v40⟩] <|
 C.ret (.slice y49.a y49.n y49.c))]),
 (C.sem (convert ty_string ty_sl_uint8 (.string v47)) .slice fun y48 =>
 C.chk [⟨4, 1, (x0.add 33), (.int .i64), v40⟩] <|
 C.sem (Instr.buildSlice ty_sl_uint8 1 #[(0, (.int .u8 (IntKind.wrap .u8 (v40))))]) .slice fun y42 =>
 C.chk [⟨4, 1, (x0.add 33), (.int .i64), v40⟩] <|
 C.sem (Builtin.append_ #[ty_sl_uint8, ty_sl_uint8] ty_sl_uint8 #[(.slice s6.1.a s6.1.n s6.1.c), (.slice y42.a y42.n y42.c)]) .slice fun y43 =>
 C.chk [⟨4, 1, (x0.add 33), (.int .i64), v40⟩] <|
 C.sem (Builtin.append_ #[ty_sl_uint8, ty_sl_uint8] ty_sl_uint8 #[(.slice y43.a y43.n y43.c), (.slice y48.a y48.n y48.c)]) .slice fun y49 =>
 C.chk [⟨4, 1, (x0.add 33), (.int .i64), v40⟩] <|
 C.ret (.slice y49.a y49.n y49.c))]
 )
 ) fun jt =>
 C.draw <|
 C.ld .slice 1 (x0.add 32) fun v8 =>
 C.ld .agg 32 (x0.add 0) fun v16 =>
 C.sem (Instr.buildSlice ty_sl_uint8 1 #[(0, (.int .u8 (IntKind.wrap .u8 ((IntKind.wrap .i64 ((v8.n : Int) + 1))))))]) .slice fun y12 =>
 C.chk [⟨11, 32, (x0.add 0), .agg, v16⟩, ⟨3, 1, (x0.add 32), .slice, v8⟩] <|
 C.call n_spec_l07Add [(.slice y12.a y12.n y12.c), (.agg v16)] [.slice] fun r17 =>
 C.chk [⟨3, 1, (x0.add 32), .slice, v8⟩] <|
 jt [(.slice r17.a r17.n r17.c)]
theorem spec_l07Data_eq (C : Comb) (x0 : Addr) : fT C Tryz.prog ⟨[(3, [(3, .slice), (4, (.int .i64))])], [(4, [(3, .slice)])], [1, 6], []⟩ n_spec_l07Data [(.pointer (some x0))] = spec_l07Data C x0 := by kernel_rfl
theorem spec_l07Data_calls {R : Value → World → Prop} {w : World} (x0 : Addr) (h : (spec_l07Data (real Tryz.prog R) x0 : World → Prop) w) :
    Calls Tryz.prog n_spec_l07Data [(.pointer (some x0))].toArray w fun e w' => ∃ v, e = .returned v ∧ R v w' := fT_sound mixed ⟨[(3, [(3, .slice), (4, (.int .i64))])], [(4, [(3, .slice)])], [1, 6], []⟩ (by rw [spec_l07Data_eq]; exact h)

def ptr_impl_ledger_bases_1 (C : Comb) (x0 : Array Value) (x1 : Addr) : C.St :=
 C.new ty_impl_Key (.agg x0) fun b2 =>
 C.ld .slice 1 x1 fun v4 =>
 C.ld .agg 32 (Addr.mk b2 0 none) fun v5 =>
 C.call n_slices_Contains_sl_impl_Key_impl_Key [(.slice v4.a v4.n v4.c), (.agg v5)] [.bool] fun r6 =>
 C.ret (.bool (!r6))
theorem ptr_impl_ledger_bases_1_eq (C : Comb) (x0 : Array Value) (x1 : Addr) : fT C Tryz.prog ⟨[], [], [], []⟩ n_ptr_impl_ledger_bases_1 [(.agg x0), (.pointer (some x1))] = ptr_impl_ledger_bases_1 C x0 x1 := by kernel_rfl
theorem ptr_impl_ledger_bases_1_calls {R : Value → World → Prop} {w : World} (x0 : Array Value) (x1 : Addr) (h : (ptr_impl_ledger_bases_1 (real Tryz.prog R) x0 x1 : World → Prop) w) :
    Calls Tryz.prog n_ptr_impl_ledger_bases_1 [(.agg x0), (.pointer (some x1))].toArray w fun e w' => ∃ v, e = .returned v ∧ R v w' := fT_sound mixed ⟨[], [], [], []⟩ (by rw [ptr_impl_ledger_bases_1_eq]; exact h)

def ptr_impl_ledger_bases_2 (C : Comb) (x0 : Array Value) (x1 : Addr) (x2 : Addr) : C.St :=
 C.new ty_impl_Key (.agg x0) fun b3 =>
 C.ld .slice 1 x1 fun v5 =>
 C.call n_slices_ContainsFunc_sl_impl_Key_impl_Key [(.slice v5.a v5.n v5.c), (.func (.func n_ptr_impl_ledger_bases_2_1) #[] #[(.pointer (some (Addr.mk b3 0 none))), (.pointer (some x2))])] [.bool] fun r7 =>
 C.ret (.bool r7)
theorem ptr_impl_ledger_bases_2_eq (C : Comb) (x0 : Array Value) (x1 : Addr) (x2 : Addr) : fT C Tryz.prog ⟨[], [], [], []⟩ n_ptr_impl_ledger_bases_2 [(.agg x0), (.pointer (some x1)), (.pointer (some x2))] = ptr_impl_ledger_bases_2 C x0 x1 x2 := by kernel_rfl
theorem ptr_impl_ledger_bases_2_calls {R : Value → World → Prop} {w : World} (x0 : Array Value) (x1 : Addr) (x2 : Addr) (h : (ptr_impl_ledger_bases_2 (real Tryz.prog R) x0 x1 x2 : World → Prop) w) :
    Calls Tryz.prog n_ptr_impl_ledger_bases_2 [(.agg x0), (.pointer (some x1)), (.pointer (some x2))].toArray w fun e w' => ∃ v, e = .returned v ∧ R v w' := fT_sound mixed ⟨[], [], [], []⟩ (by rw [ptr_impl_ledger_bases_2_eq]; exact h)

def slices_ContainsFunc_sl_impl_Key_impl_Key (C : Comb) (x0 : Sl) (x1 : Value) : C.St :=
 C.call n_slices_IndexFunc_sl_impl_Key_impl_Key [(.slice x0.a x0.n x0.c), x1] [(.int .i64)] fun r7 =>
 C.ret (.bool (decide (r7 ≥ 0)))
theorem slices_ContainsFunc_sl_impl_Key_impl_Key_eq (C : Comb) (x0 : Sl) (x1 : Value) : fT C Tryz.prog ⟨[], [], [], []⟩ n_slices_ContainsFunc_sl_impl_Key_impl_Key [(.slice x0.a x0.n x0.c), x1] = slices_ContainsFunc_sl_impl_Key_impl_Key C x0 x1 := by kernel_rfl
theorem slices_ContainsFunc_sl_impl_Key_impl_Key_calls {R : Value → World → Prop} {w : World} (x0 : Sl) (x1 : Value) (h : (slices_ContainsFunc_sl_impl_Key_impl_Key (real Tryz.prog R) x0 x1 : World → Prop) w) :
    Calls Tryz.prog n_slices_ContainsFunc_sl_impl_Key_impl_Key [(.slice x0.a x0.n x0.c), x1].toArray w fun e w' => ∃ v, e = .returned v ∧ R v w' := fT_sound mixed ⟨[], [], [], []⟩ (by rw [slices_ContainsFunc_sl_impl_Key_impl_Key_eq]; exact h)

def ptr_impl_ledger_bases_2_1 (C : Comb) (x0 : Array Value) (x1 : Addr) (x2 : Addr) : C.St :=
 C.new ty_impl_Key (.agg x0) fun b3 =>
 C.ld .agg 32 x1 fun v5 =>
 C.ld .agg 32 (Addr.mk b3 0 none) fun v6 =>
 C.pur (eqB .neq ty_impl_Key (.tmp 5) (.tmp 6) (.agg v5) (.agg v6)) .bool fun y7 =>
 cond y7 (
 C.ld .ptr 1 x2 fun v9 =>
 C.ld .agg 32 x1 fun v10 =>
 C.ld .agg 32 (Addr.mk b3 0 none) fun v11 =>
 C.call n_ptr_impl_ledger_isAncestor [(.pointer (some v9)), (.agg v10), (.agg v11)] [.bool] fun r12 =>
 C.ret (.bool r12)
 ) (
 C.ret (.bool false)
 )
theorem ptr_impl_ledger_bases_2_1_eq (C : Comb) (x0 : Array Value) (x1 : Addr) (x2 : Addr) : fT C Tryz.prog ⟨[], [], [], []⟩ n_ptr_impl_ledger_bases_2_1 [(.agg x0), (.pointer (some x1)), (.pointer (some x2))] = ptr_impl_ledger_bases_2_1 C x0 x1 x2 := by kernel_rfl
theorem ptr_impl_ledger_bases_2_1_calls {R : Value → World → Prop} {w : World} (x0 : Array Value) (x1 : Addr) (x2 : Addr) (h : (ptr_impl_ledger_bases_2_1 (real Tryz.prog R) x0 x1 x2 : World → Prop) w) :
    Calls Tryz.prog n_ptr_impl_ledger_bases_2_1 [(.agg x0), (.pointer (some x1)), (.pointer (some x2))].toArray w fun e w' => ∃ v, e = .returned v ∧ R v w' := fT_sound mixed ⟨[], [], [], []⟩ (by rw [ptr_impl_ledger_bases_2_1_eq]; exact h)

def slices_Compare_sl_byte_byte (C : Comb) (x0 : Sl) (x1 : Sl) : C.St :=
 C.loop (TL [(.int .i64)]) (embL [(.int .i64)]) [(.int .i64 0)] fun s1 ct1 => C.any fun _ =>
 cond (decide (s1 < (x0.n : Int))) (
 C.ix x0.a x0.n 1 s1 fun p14 =>
 C.ld (.int .u8) 1 p14 fun v15 =>
 cond (decide (s1 ≥ (x1.n : Int))) (
 C.ret (.int .i64 1)
 ) (
 C.ix x1.a x1.n 1 s1 fun p22 =>
 C.ld (.int .u8) 1 p22 fun v23 =>
 C.call n_cmp_Compare_byte [(.int .u8 v15), (.int .u8 v23)] [(.int .i64)] fun r26 =>
 cond (r26 != 0) (
 C.ret (.int .i64 r26)
 ) (
 ct1 [(.int .i64 (IntKind.wrap .i64 (s1 + 1)))]
 )
 )
 ) (
 cond (decide ((x0.n : Int) < (x1.n : Int))) (
 C.ret (.int .i64 (-1))
 ) (
 C.ret (.int .i64 0)
 )
 )
theorem slices_Compare_sl_byte_byte_eq (C : Comb) (x0 : Sl) (x1 : Sl) : fT C Tryz.prog ⟨[(2, [(11, (.int .i64))])], [], [], []⟩ n_slices_Compare_sl_byte_byte [(.slice x0.a x0.n x0.c), (.slice x1.a x1.n x1.c)] = slices_Compare_sl_byte_byte C x0 x1 := by kernel_rfl
theorem slices_Compare_sl_byte_byte_calls {R : Value → World → Prop} {w : World} (x0 : Sl) (x1 : Sl) (h : (slices_Compare_sl_byte_byte (real Tryz.prog R) x0 x1 : World → Prop) w) :
    Calls Tryz.prog n_slices_Compare_sl_byte_byte [(.slice x0.a x0.n x0.c), (.slice x1.a x1.n x1.c)].toArray w fun e w' => ∃ v, e = .returned v ∧ R v w' := fT_sound mixed ⟨[(2, [(11, (.int .i64))])], [], [], []⟩ (by rw [slices_Compare_sl_byte_byte_eq]; exact h)

def spec_l07Find (C : Comb) (x0 : Sl) (x1 : Array Value) : C.St :=
 C.new ty_impl_Key (.agg x1) fun b3 =>
 C.loop (TL [(.int .i64)]) (embL [(.int .i64)]) [(.int .i64 0)] fun s2 ct2 => C.any fun _ =>
 cond (decide (s2 < (x0.n : Int))) (
 C.draw <|
 C.ix x0.a x0.n 32 s2 fun p14 =>
 C.ld .agg 32 p14 fun v15 =>
 C.ld .agg 32 (Addr.mk b3 0 none) fun v16 =>
 C.pur (eqB .eql ty_impl_Key (.tmp 15) (.tmp 16) (.agg v15) (.agg v16)) .bool fun y17 =>
 cond y17 (
 C.ret (.int .i64 s2)
 ) (
 ct2 [(.int .i64 (IntKind.wrap .i64 (s2 + 1)))]
 )
 ) (
 C.ret (.int .i64 (-1))
 )
theorem spec_l07Find_eq (C : Comb) (x0 : Sl) (x1 : Array Value) : fT C Tryz.prog ⟨[(2, [(5, (.int .i64))])], [], [], []⟩ n_spec_l07Find [(.slice x0.a x0.n x0.c), (.agg x1)] = spec_l07Find C x0 x1 := by kernel_rfl
theorem spec_l07Find_calls {R : Value → World → Prop} {w : World} (x0 : Sl) (x1 : Array Value) (h : (spec_l07Find (real Tryz.prog R) x0 x1 : World → Prop) w) :
    Calls Tryz.prog n_spec_l07Find [(.slice x0.a x0.n x0.c), (.agg x1)].toArray w fun e w' => ∃ v, e = .returned v ∧ R v w' := fT_sound mixed ⟨[(2, [(5, (.int .i64))])], [], [], []⟩ (by rw [spec_l07Find_eq]; exact h)

def spec_l07Keys (C : Comb) (x0 : Addr) : C.St :=
 C.sem (Instr.buildSlice ty_sl_impl_Key 0 #[]) .slice fun y5 =>
 C.loop (TL [.slice, (.int .i64)]) (embL [.slice, (.int .i64)]) [(.slice y5.a y5.n y5.c), (.int .i64 0)] fun s2 ct2 => C.any fun _ =>
 C.ld .slice 1 (x0.add 0) fun v10 =>
 cond (decide (s2.2 < (v10.n : Int))) (
 C.ld .slice 1 (x0.add 0) fun v19 =>
 C.ix v19.a v19.n 35 s2.2 fun p21 =>
 C.call n_spec_l07Key [(.pointer (some p21))] [.agg] fun r22 =>
 C.sem (Instr.buildSlice ty_sl_impl_Key 1 #[(0, (.agg r22))]) .slice fun y23 =>
 C.sem (Builtin.append_ #[ty_sl_impl_Key, ty_sl_impl_Key] ty_sl_impl_Key #[(.slice s2.1.a s2.1.n s2.1.c), (.slice y23.a y23.n y23.c)]) .slice fun y24 =>
 ct2 [(.slice y24.a y24.n y24.c), (.int .i64 (IntKind.wrap .i64 (s2.2 + 1)))]
 ) (
 C.ret (.slice s2.1.a s2.1.n s2.1.c)
 )
theorem spec_l07Keys_eq (C : Comb) (x0 : Addr) : fT C Tryz.prog ⟨[(3, [(3, .slice), (4, (.int .i64))])], [], [], []⟩ n_spec_l07Keys [(.pointer (some x0))] = spec_l07Keys C x0 := by kernel_rfl
theorem spec_l07Keys_calls {R : Value → World → Prop} {w : World} (x0 : Addr) (h : (spec_l07Keys (real Tryz.prog R) x0 : World → Prop) w) :
    Calls Tryz.prog n_spec_l07Keys [(.pointer (some x0))].toArray w fun e w' => ∃ v, e = .returned v ∧ R v w' := fT_sound mixed ⟨[(3, [(3, .slice), (4, (.int .i64))])], [], [], []⟩ (by rw [spec_l07Keys_eq]; exact h)

def spec_l01Sort (C : Comb) (x0 : Sl) (x1 : Array Value) : C.St :=
 C.new ty_impl_Key (.agg x1) fun b3 =>
 C.sem (Instr.buildSlice ty_sl_impl_Key 0 #[]) .slice fun y9 =>
 C.loop (TL [.slice, (.int .i64)]) (embL [.slice, (.int .i64)]) [(.slice y9.a y9.n y9.c), (.int .i64 0)] fun s3 ct3 => C.any fun _ =>
 cond (decide (s3.2 < (x0.n : Int))) (
 C.ix x0.a x0.n 32 s3.2 fun p19 =>
 C.ld .agg 32 p19 fun v20 =>
 C.call n_spec_l01Has [(.slice s3.1.a s3.1.n s3.1.c), (.agg v20)] [.bool] fun r21 =>
 cond r21 (
 ct3 [(.slice s3.1.a s3.1.n s3.1.c), (.int .i64 (IntKind.wrap .i64 (s3.2 + 1)))]
 ) (
 C.ix x0.a x0.n 32 s3.2 fun p25 =>
 C.ld .agg 32 p25 fun v26 =>
 C.sem (Instr.buildSlice ty_sl_impl_Key 1 #[(0, (.agg v26))]) .slice fun y27 =>
 C.sem (Builtin.append_ #[ty_sl_impl_Key, ty_sl_impl_Key] ty_sl_impl_Key #[(.slice s3.1.a s3.1.n s3.1.c), (.slice y27.a y27.n y27.c)]) .slice fun y28 =>
 C.loop (TL [(.int .i64)]) (embL [(.int .i64)]) [(.int .i64 (IntKind.wrap .i64 ((y28.n : Int) - 1)))] fun s11 ct11 => C.any fun _ =>
 C.join (TL []) (embL []) (fun s216 => C.any fun _ =>
 C.ix y28.a y28.n 32 s11 fun p55 =>
 C.ld .agg 32 p55 fun v56 =>
 C.new ty_impl_Key (.agg (Array.replicate 32 (.int .u8 0))) fun b8 =>
 C.st 32 (Addr.mk b8 0 none) (.agg v56) <|
 C.ix y28.a y28.n 32 (IntKind.wrap .i64 (s11 - 1)) fun p62 =>
 C.ld .agg 32 p62 fun v63 =>
 C.ix y28.a y28.n 32 s11 fun p64 =>
 C.st 32 p64 (.agg v63) <|
 C.ld .agg 32 (Addr.mk b8 0 none) fun v68 =>
 C.ix y28.a y28.n 32 (IntKind.wrap .i64 (s11 - 1)) fun p69 =>
 C.st 32 p69 (.agg v68) <|
 ct11 [(.int .i64 (IntKind.wrap .i64 (s11 - 1)))]
 ) fun jt =>
 C.draw <|
 cond (decide (s11 > 0)) (
 C.ix y28.a y28.n 32 s11 fun p37 =>
 C.ix y28.a y28.n 32 (IntKind.wrap .i64 (s11 - 1)) fun p44 =>
 C.all [
 (C.ld .agg 32 p37 fun v38 =>
 C.all [
 (C.ld .agg 32 (Addr.mk b3 0 none) fun v39 =>
 C.all [
 (C.call n_spec_l01Xor [(.agg v38), (.agg v39)] [.agg] fun r40 =>
 C.all [
 (C.ld .agg 32 p44 fun v45 =>
 C.ld .agg 32 (Addr.mk b3 0 none) fun v46 =>
 C.call n_spec_l01Xor [(.agg v45), (.agg v46)] [.agg] fun r47 =>
 C.call n_spec_l01Compare [(.agg r40), (.agg r47)] [(.int .i64)] fun r48 =>
 cond (decide (r48 < 0)) (
 jt []
 ) (
 ct3 [(.slice y28.a y28.n y28.c), (.int .i64 (IntKind.wrap .i64 (s3.2 + 1)))]
 )),
 (C.ld .agg 32 (Addr.mk b3 0 none) fun v46 =>
 C.ld .agg 32 p44 fun v45 =>
 C.call n_spec_l01Xor [(.agg v45), (.agg v46)] [.agg] fun r47 =>
 C.call n_spec_l01Compare [(.agg r40), (.agg r47)] [(.int .i64)] fun r48 =>
 cond (decide (r48 < 0)) (
 jt []
 ) (
 ct3 [(.slice y28.a y28.n y28.c), (.int .i64 (IntKind.wrap .i64 (s3.2 + 1)))]
 ))]),
 (C.ld .agg 32 p44 fun v45 =>
 C.all [
 (C.call n_spec_l01Xor [(.agg v38), (.agg v39)] [.agg] fun r40 =>
 C.ld .agg 32 (Addr.mk b3 0 none) fun v46 =>
 C.call n_spec_l01Xor [(.agg v45), (.agg v46)] [.agg] fun r47 =>
 C.call n_spec_l01Compare [(.agg r40), (.agg r47)] [(.int .i64)] fun r48 =>
 cond (decide (r48 < 0)) (
 jt []
 ) (
 ct3 [(.slice y28.a y28.n y28.c), (.int .i64 (IntKind.wrap .i64 (s3.2 + 1)))]
 )),
 (C.ld .agg 32 (Addr.mk b3 0 none) fun v46 =>
 C.call n_spec_l01Xor [(.agg v38), (.agg v39)] [.agg] fun r40 =>
 C.call n_spec_l01Xor [(.agg v45), (.agg v46)] [.agg] fun r47 =>
 C.call n_spec_l01Compare [(.agg r40), (.agg r47)] [(.int .i64)] fun r48 =>
 cond (decide (r48 < 0)) (
 jt []
 ) (
 ct3 [(.slice y28.a y28.n y28.c), (.int .i64 (IntKind.wrap .i64 (s3.2 + 1)))]
 ))]),
 (C.ld .agg 32 (Addr.mk b3 0 none) fun v46 =>
 C.all [
 (C.call n_spec_l01Xor [(.agg v38), (.agg v39)] [.agg] fun r40 =>
 C.ld .agg 32 p44 fun v45 =>
 C.call n_spec_l01Xor [(.agg v45), (.agg v46)] [.agg] fun r47 =>
 C.call n_spec_l01Compare [(.agg r40), (.agg r47)] [(.int .i64)] fun r48 =>
 cond (decide (r48 < 0)) (
 jt []
 ) (
 ct3 [(.slice y28.a y28.n y28.c), (.int .i64 (IntKind.wrap .i64 (s3.2 + 1)))]
 )),
 (C.ld .agg 32 p44 fun v45 =>
 C.call n_spec_l01Xor [(.agg v38), (.agg v39)] [.agg] fun r40 =>
 C.call n_spec_l01Xor [(.agg v45), (.agg v46)] [.agg] fun r47 =>
 C.call n_spec_l01Compare [(.agg r40), (.agg r47)] [(.int .i64)] fun r48 =>
 cond (decide (r48 < 0)) (
 jt []
 ) (
 ct3 [(.slice y28.a y28.n y28.c), (.int .i64 (IntKind.wrap .i64 (s3.2 + 1)))]
 ))])]),
 (C.ld .agg 32 p44 fun v45 =>
 C.all [
 (C.ld .agg 32 (Addr.mk b3 0 none) fun v39 =>
 C.all [
 (C.call n_spec_l01Xor [(.agg v38), (.agg v39)] [.agg] fun r40 =>
 C.ld .agg 32 (Addr.mk b3 0 none) fun v46 =>
 C.call n_spec_l01Xor [(.agg v45), (.agg v46)] [.agg] fun r47 =>
 C.call n_spec_l01Compare [(.agg r40), (.agg r47)] [(.int .i64)] fun r48 =>
 cond (decide (r48 < 0)) (
 jt []
 ) (
 ct3 [(.slice y28.a y28.n y28.c), (.int .i64 (IntKind.wrap .i64 (s3.2 + 1)))]
 )),
 (C.ld .agg 32 (Addr.mk b3 0 none) fun v46 =>
 C.call n_spec_l01Xor [(.agg v38), (.agg v39)] [.agg] fun r40 =>
 C.call n_spec_l01Xor [(.agg v45), (.agg v46)] [.agg] fun r47 =>
 C.call n_spec_l01Compare [(.agg r40), (.agg r47)] [(.int .i64)] fun r48 =>
 cond (decide (r48 < 0)) (
 jt []
 ) (
 ct3 [(.slice y28.a y28.n y28.c), (.int .i64 (IntKind.wrap .i64 (s3.2 + 1)))]
 ))]),
 (C.ld .agg 32 (Addr.mk b3 0 none) fun v46 =>
 C.ld .agg 32 (Addr.mk b3 0 none) fun v39 =>
 C.call n_spec_l01Xor [(.agg v38), (.agg v39)] [.agg] fun r40 =>
 C.call n_spec_l01Xor [(.agg v45), (.agg v46)] [.agg] fun r47 =>
 C.call n_spec_l01Compare [(.agg r40), (.agg r47)] [(.int .i64)] fun r48 =>
 cond (decide (r48 < 0)) (
 jt []
 ) (
 ct3 [(.slice y28.a y28.n y28.c), (.int .i64 (IntKind.wrap .i64 (s3.2 + 1)))]
 ))]),
 (C.ld .agg 32 (Addr.mk b3 0 none) fun v46 =>
 C.all [
 (C.ld .agg 32 (Addr.mk b3 0 none) fun v39 =>
 C.all [
 (C.call n_spec_l01Xor [(.agg v38), (.agg v39)] [.agg] fun r40 =>
 C.ld .agg 32 p44 fun v45 =>
 C.call n_spec_l01Xor [(.agg v45), (.agg v46)] [.agg] fun r47 =>
 C.call n_spec_l01Compare [(.agg r40), (.agg r47)] [(.int .i64)] fun r48 =>
 cond (decide (r48 < 0)) (
 jt []
 ) (
 ct3 [(.slice y28.a y28.n y28.c), (.int .i64 (IntKind.wrap .i64 (s3.2 + 1)))]
 )),
 (C.ld .agg 32 p44 fun v45 =>
 C.call n_spec_l01Xor [(.agg v38), (.agg v39)] [.agg] fun r40 =>
 C.call n_spec_l01Xor [(.agg v45), (.agg v46)] [.agg] fun r47 =>
 C.call n_spec_l01Compare [(.agg r40), (.agg r47)] [(.int .i64)] fun r48 =>
 cond (decide (r48 < 0)) (
 jt []
 ) (
 ct3 [(.slice y28.a y28.n y28.c), (.int .i64 (IntKind.wrap .i64 (s3.2 + 1)))]
 ))]),
 (C.ld .agg 32 p44 fun v45 =>
 C.ld .agg 32 (Addr.mk b3 0 none) fun v39 =>
 C.call n_spec_l01Xor [(.agg v38), (.agg v39)] [.agg] fun r40 =>
 C.call n_spec_l01Xor [(.agg v45), (.agg v46)] [.agg] fun r47 =>
 C.call n_spec_l01Compare [(.agg r40), (.agg r47)] [(.int .i64)] fun r48 =>
 cond (decide (r48 < 0)) (
 jt []
 ) (
 ct3 [(.slice y28.a y28.n y28.c), (.int .i64 (IntKind.wrap .i64 (s3.2 + 1)))]
 ))])]),
 (C.ld .agg 32 (Addr.mk b3 0 none) fun v39 =>
 C.all [
 (C.ld .agg 32 p37 fun v38 =>
 C.all [
 (C.call n_spec_l01Xor [(.agg v38), (.agg v39)] [.agg] fun r40 =>
 C.all [
 (C.ld .agg 32 p44 fun v45 =>
 C.ld .agg 32 (Addr.mk b3 0 none) fun v46 =>
 C.call n_spec_l01Xor [(.agg v45), (.agg v46)] [.agg] fun r47 =>
 C.call n_spec_l01Compare [(.agg r40), (.agg r47)] [(.int .i64)] fun r48 =>
 cond (decide (r48 < 0)) (
 jt []
 ) (
 ct3 [(.slice y28.a y28.n y28.c), (.int .i64 (IntKind.wrap .i64 (s3.2 + 1)))]
 )),
 (C.ld .agg 32 (Addr.mk b3 0 none) fun v46 =>
 C.ld .agg 32 p44 fun v45 =>
 C.call n_spec_l01Xor [(.agg v45), (.agg v46)] [.agg] fun r47 =>
 C.call n_spec_l01Compare [(.agg r40), (.agg r47)] [(.int .i64)] fun r48 =>
 cond (decide (r48 < 0)) (
 jt []
 ) (
 ct3 [(.slice y28.a y28.n y28.c), (.int .i64 (IntKind.wrap .i64 (s3.2 + 1)))]
 ))]),
 (C.ld .agg 32 p44 fun v45 =>
 C.all [
 (C.call n_spec_l01Xor [(.agg v38), (.agg v39)] [.agg] fun r40 =>
 C.ld .agg 32 (Addr.mk b3 0 none) fun v46 =>
 C.call n_spec_l01Xor [(.agg v45), (.agg v46)] [.agg] fun r47 =>
 C.call n_spec_l01Compare [(.agg r40), (.agg r47)] [(.int .i64)] fun r48 =>
 cond (decide (r48 < 0)) (
 jt []
 ) (
 ct3 [(.slice y28.a y28.n y28.c), (.int .i64 (IntKind.wrap .i64 (s3.2 + 1)))]
 )),
 (C.ld .agg 32 (Addr.mk b3 0 none) fun v46 =>
 C.call n_spec_l01Xor [(.agg v38), (.agg v39)] [.agg] fun r40 =>
 C.call n_spec_l01Xor [(.agg v45), (.agg v46)] [.agg] fun r47 =>
 C.call n_spec_l01Compare [(.agg r40), (.agg r47)] [(.int .i64)] fun r48 =>
 cond (decide (r48 < 0)) (
 jt []
 ) (
 ct3 [(.slice y28.a y28.n y28.c), (.int .i64 (IntKind.wrap .i64 (s3.2 + 1)))]
 ))]),
 (C.ld .agg 32 (Addr.mk b3 0 none) fun v46 =>
 C.all [
 (C.call n_spec_l01Xor [(.agg v38), (.agg v39)] [.agg] fun r40 =>
 C.ld .agg 32 p44 fun v45 =>
 C.call n_spec_l01Xor [(.agg v45), (.agg v46)] [.agg] fun r47 =>
 C.call n_spec_l01Compare [(.agg r40), (.agg r47)] [(.int .i64)] fun r48 =>
 cond (decide (r48 < 0)) (
 jt []
 ) (
 ct3 [(.slice y28.a y28.n y28.c), (.int .i64 (IntKind.wrap .i64 (s3.2 + 1)))]
 )),
 (C.ld .agg 32 p44 fun v45 =>
 C.call n_spec_l01Xor [(.agg v38), (.agg v39)] [.agg] fun r40 =>
 C.call n_spec_l01Xor [(.agg v45), (.agg v46)] [.agg] fun r47 =>
 C.call n_spec_l01Compare [(.agg r40), (.agg r47)] [(.int .i64)] fun r48 =>
 cond (decide (r48 < 0)) (
 jt []
 ) (
 ct3 [(.slice y28.a y28.n y28.c), (.int .i64 (IntKind.wrap .i64 (s3.2 + 1)))]
 ))])]),
 (C.ld .agg 32 p44 fun v45 =>
 C.all [
 (C.ld .agg 32 p37 fun v38 =>
 C.all [
 (C.call n_spec_l01Xor [(.agg v38), (.agg v39)] [.agg] fun r40 =>
 C.ld .agg 32 (Addr.mk b3 0 none) fun v46 =>
 C.call n_spec_l01Xor [(.agg v45), (.agg v46)] [.agg] fun r47 =>
 C.call n_spec_l01Compare [(.agg r40), (.agg r47)] [(.int .i64)] fun r48 =>
 cond (decide (r48 < 0)) (
 jt []
 ) (
 ct3 [(.slice y28.a y28.n y28.c), (.int .i64 (IntKind.wrap .i64 (s3.2 + 1)))]
 )),
 (C.ld .agg 32 (Addr.mk b3 0 none) fun v46 =>
 C.call n_spec_l01Xor [(.agg v38), (.agg v39)] [.agg] fun r40 =>
 C.call n_spec_l01Xor [(.agg v45), (.agg v46)] [.agg] fun r47 =>
 C.call n_spec_l01Compare [(.agg r40), (.agg r47)] [(.int .i64)] fun r48 =>
 cond (decide (r48 < 0)) (
 jt []
 ) (
 ct3 [(.slice y28.a y28.n y28.c), (.int .i64 (IntKind.wrap .i64 (s3.2 + 1)))]
 ))]),
 (C.ld .agg 32 (Addr.mk b3 0 none) fun v46 =>
 C.ld .agg 32 p37 fun v38 =>
 C.call n_spec_l01Xor [(.agg v38), (.agg v39)] [.agg] fun r40 =>
 C.call n_spec_l01Xor [(.agg v45), (.agg v46)] [.agg] fun r47 =>
 C.call n_spec_l01Compare [(.agg r40), (.agg r47)] [(.int .i64)] fun r48 =>
 cond (decide (r48 < 0)) (
 jt []
 ) (
 ct3 [(.slice y28.a y28.n y28.c), (.int .i64 (IntKind.wrap .i64 (s3.2 + 1)))]
 ))]),
 (C.ld .agg 32 (Addr.mk b3 0 none) fun v46 =>
 C.all [
 (C.ld .agg 32 p37 fun v38 =>
 C.all [
 (C.call n_spec_l01Xor [(.agg v38), (.agg v39)] [.agg] fun r40 =>
 C.ld .agg 32 p44 fun v45 =>
 C.call n_spec_l01Xor [(.agg v45), (.agg v46)] [.agg] fun r47 =>
 C.call n_spec_l01Compare [(.agg r40), (.agg r47)] [(.int .i64)] fun r48 =>
 cond (decide (r48 < 0)) (
 jt []
 ) (
 ct3 [(.slice y28.a y28.n y28.c), (.int .i64 (IntKind.wrap .i64 (s3.2 + 1)))]
 )),
 (C.ld .agg 32 p44 fun v45 =>
 C.call n_spec_l01Xor [(.agg v38), (.agg v39)] [.agg] fun r40 =>
 C.call n_spec_l01Xor [(.agg v45), (.agg v46)] [.agg] fun r47 =>
 C.call n_spec_l01Compare [(.agg r40), (.agg r47)] [(.int .i64)] fun r48 =>
 cond (decide (r48 < 0)) (
 jt []
 ) (
 ct3 [(.slice y28.a y28.n y28.c), (.int .i64 (IntKind.wrap .i64 (s3.2 + 1)))]
 ))]),
 (C.ld .agg 32 p44 fun v45 =>
 C.ld .agg 32 p37 fun v38 =>
 C.call n_spec_l01Xor [(.agg v38), (.agg v39)] [.agg] fun r40 =>
 C.call n_spec_l01Xor [(.agg v45), (.agg v46)] [.agg] fun r47 =>
 C.call n_spec_l01Compare [(.agg r40), (.agg r47)] [(.int .i64)] fun r48 =>
 cond (decide (r48 < 0)) (
 jt []
 ) (
 ct3 [(.slice y28.a y28.n y28.c), (.int .i64 (IntKind.wrap .i64 (s3.2 + 1)))]
 ))])]),
 (C.ld .agg 32 p44 fun v45 =>
 C.all [
 (C.ld .agg 32 p37 fun v38 =>
 C.all [
 (C.ld .agg 32 (Addr.mk b3 0 none) fun v39 =>
 C.all [
 (C.call n_spec_l01Xor [(.agg v38), (.agg v39)] [.agg] fun r40 =>
 C.ld .agg 32 (Addr.mk b3 0 none) fun v46 =>
 C.call n_spec_l01Xor [(.agg v45), (.agg v46)] [.agg] fun r47 =>
 C.call n_spec_l01Compare [(.agg r40), (.agg r47)] [(.int .i64)] fun r48 =>
 cond (decide (r48 < 0)) (
 jt []
 ) (
 ct3 [(.slice y28.a y28.n y28.c), (.int .i64 (IntKind.wrap .i64 (s3.2 + 1)))]
 )),
 (C.ld .agg 32 (Addr.mk b3 0 none) fun v46 =>
 C.call n_spec_l01Xor [(.agg v38), (.agg v39)] [.agg] fun r40 =>
 C.call n_spec_l01Xor [(.agg v45), (.agg v46)] [.agg] fun r47 =>
 C.call n_spec_l01Compare [(.agg r40), (.agg r47)] [(.int .i64)] fun r48 =>
 cond (decide (r48 < 0)) (
 jt []
 ) (
 ct3 [(.slice y28.a y28.n y28.c), (.int .i64 (IntKind.wrap .i64 (s3.2 + 1)))]
 ))]),
 (C.ld .agg 32 (Addr.mk b3 0 none) fun v46 =>
 C.ld .agg 32 (Addr.mk b3 0 none) fun v39 =>
 C.call n_spec_l01Xor [(.agg v38), (.agg v39)] [.agg] fun r40 =>
 C.call n_spec_l01Xor [(.agg v45), (.agg v46)] [.agg] fun r47 =>
 C.call n_spec_l01Compare [(.agg r40), (.agg r47)] [(.int .i64)] fun r48 =>
 cond (decide (r48 < 0)) (
 jt []
 ) (
 ct3 [(.slice y28.a y28.n y28.c), (.int .i64 (IntKind.wrap .i64 (s3.2 + 1)))]
 ))]),
 (C.ld .agg 32 (Addr.mk b3 0 none) fun v39 =>
 C.all [
 (C.ld .agg 32 p37 fun v38 =>
 C.all [
 (C.call n_spec_l01Xor [(.agg v38), (.agg v39)] [.agg] fun r40 =>
 C.ld .agg 32 (Addr.mk b3 0 none) fun v46 =>
 C.call n_spec_l01Xor [(.agg v45), (.agg v46)] [.agg] fun r47 =>
 C.call n_spec_l01Compare [(.agg r40), (.agg r47)] [(.int .i64)] fun r48 =>
 cond (decide (r48 < 0)) (
 jt []
 ) (
 ct3 [(.slice y28.a y28.n y28.c), (.int .i64 (IntKind.wrap .i64 (s3.2 + 1)))]
 )),
 (C.ld .agg 32 (Addr.mk b3 0 none) fun v46 =>
 C.call n_spec_l01Xor [(.agg v38), (.agg v39)] [.agg] fun r40 =>
 C.call n_spec_l01Xor [(.agg v45), (.agg v46)] [.agg] fun r47 =>
 C.call n_spec_l01Compare [(.agg r40), (.agg r47)] [(.int .i64)] fun r48 =>
 cond (decide (r48 < 0)) (
 jt []
 ) (
 ct3 [(.slice y28.a y28.n y28.c), (.int .i64 (IntKind.wrap .i64 (s3.2 + 1)))]
 ))]),
 (C.ld .agg 32 (Addr.mk b3 0 none) fun v46 =>
 C.ld .agg 32 p37 fun v38 =>
 C.call n_spec_l01Xor [(.agg v38), (.agg v39)] [.agg] fun r40 =>
 C.call n_spec_l01Xor [(.agg v45), (.agg v46)] [.agg] fun r47 =>
 C.call n_spec_l01Compare [(.agg r40), (.agg r47)] [(.int .i64)] fun r48 =>
 cond (decide (r48 < 0)) (
 jt []
 ) (
 ct3 [(.slice y28.a y28.n y28.c), (.int .i64 (IntKind.wrap .i64 (s3.2 + 1)))]
 ))]),
 (C.ld .agg 32 (Addr.mk b3 0 none) fun v46 =>
 C.all [
 (C.ld .agg 32 p37 fun v38 =>
 C.ld .agg 32 (Addr.mk b3 0 none) fun v39 =>
 C.call n_spec_l01Xor [(.agg v38), (.agg v39)] [.agg] fun r40 =>
 C.call n_spec_l01Xor [(.agg v45), (.agg v46)] [.agg] fun r47 =>
 C.call n_spec_l01Compare [(.agg r40), (.agg r47)] [(.int .i64)] fun r48 =>
 cond (decide (r48 < 0)) (
 jt []
 ) (
 ct3 [(.slice y28.a y28.n y28.c), (.int .i64 (IntKind.wrap .i64 (s3.2 + 1)))]
 )),
 (C.ld .agg 32 (Addr.mk b3 0 none) fun v39 =>
 C.ld .agg 32 p37 fun v38 =>
 C.call n_spec_l01Xor [(.agg v38), (.agg v39)] [.agg] fun r40 =>
 C.call n_spec_l01Xor [(.agg v45), (.agg v46)] [.agg] fun r47 =>
 C.call n_spec_l01Compare [(.agg r40), (.agg r47)] [(.int .i64)] fun r48 =>
 cond (decide (r48 < 0)) (
 jt []
 ) (
 ct3 [(.slice y28.a y28.n y28.c), (.int .i64 (IntKind.wrap .i64 (s3.2 + 1)))]
 ))])]),
 (C.ld .agg 32 (Addr.mk b3 0 none) fun v46 =>
 C.all [
 (C.ld .agg 32 p37 fun v38 =>
 C.all [
 (C.ld .agg 32 (Addr.mk b3 0 none) fun v39 =>
 C.all [
 (C.call n_spec_l01Xor [(.agg v38), (.agg v39)] [.agg] fun r40 =>
 C.ld .agg 32 p44 fun v45 =>
 C.call n_spec_l01Xor [(.agg v45), (.agg v46)] [.agg] fun r47 =>
 C.call n_spec_l01Compare [(.agg r40), (.agg r47)] [(.int .i64)] fun r48 =>
 cond (decide (r48 < 0)) (
 jt []
 ) (
 ct3 [(.slice y28.a y28.n y28.c), (.int .i64 (IntKind.wrap .i64 (s3.2 + 1)))]
 )),
 (C.ld .agg 32 p44 fun v45 =>
 C.call n_spec_l01Xor [(.agg v38), (.agg v39)] [.agg] fun r40 =>
 C.call n_spec_l01Xor [(.agg v45), (.agg v46)] [.agg] fun r47 =>
 C.call n_spec_l01Compare [(.agg r40), (.agg r47)] [(.int .i64)] fun r48 =>
 cond (decide (r48 < 0)) (
 jt []
 ) (
 ct3 [(.slice y28.a y28.n y28.c), (.int .i64 (IntKind.wrap .i64 (s3.2 + 1)))]
 ))]),
 (C.ld .agg 32 p44 fun v45 =>
 C.ld .agg 32 (Addr.mk b3 0 none) fun v39 =>
 C.call n_spec_l01Xor [(.agg v38), (.agg v39)] [.agg] fun r40 =>
 C.call n_spec_l01Xor [(.agg v45), (.agg v46)] [.agg] fun r47 =>
 C.call n_spec_l01Compare [(.agg r40), (.agg r47)] [(.int .i64)] fun r48 =>
 cond (decide (r48 < 0)) (
 jt []
 ) (
 ct3 [(.slice y28.a y28.n y28.c), (.int .i64 (IntKind.wrap .i64 (s3.2 + 1)))]
 ))]),
 (C.ld .agg 32 (Addr.mk b3 0 none) fun v39 =>
 C.all [
 (C.ld .agg 32 p37 fun v38 =>
 C.all [
 (C.call n_spec_l01Xor [(.agg v38), (.agg v39)] [.agg] fun r40 =>
 C.ld .agg 32 p44 fun v45 =>
 C.call n_spec_l01Xor [(.agg v45), (.agg v46)] [.agg] fun r47 =>
 C.call n_spec_l01Compare [(.agg r40), (.agg r47)] [(.int .i64)] fun r48 =>
 cond (decide (r48 < 0)) (
 jt []
 ) (
 ct3 [(.slice y28.a y28.n y28.c), (.int .i64 (IntKind.wrap .i64 (s3.2 + 1)))]
 )),
 (C.ld .agg 32 p44 fun v45 =>
 C.call n_spec_l01Xor [(.agg v38), (.agg v39)] [.agg] fun r40 =>
 C.call n_spec_l01Xor [(.agg v45), (.agg v46)] [.agg] fun r47 =>
 C.call n_spec_l01Compare [(.agg r40), (.agg r47)] [(.int .i64)] fun r48 =>
 cond (decide (r48 < 0)) (
 jt []
 ) (
 ct3 [(.slice y28.a y28.n y28.c), (.int .i64 (IntKind.wrap .i64 (s3.2 + 1)))]
 ))]),
 (C.ld .agg 32 p44 fun v45 =>
 C.ld .agg 32 p37 fun v38 =>
 C.call n_spec_l01Xor [(.agg v38), (.agg v39)] [.agg] fun r40 =>
 C.call n_spec_l01Xor [(.agg v45), (.agg v46)] [.agg] fun r47 =>
 C.call n_spec_l01Compare [(.agg r40), (.agg r47)] [(.int .i64)] fun r48 =>
 cond (decide (r48 < 0)) (
 jt []
 ) (
 ct3 [(.slice y28.a y28.n y28.c), (.int .i64 (IntKind.wrap .i64 (s3.2 + 1)))]
 ))]),
 (C.ld .agg 32 p44 fun v45 =>
 C.all [
 (C.ld .agg 32 p37 fun v38 =>
 C.ld .agg 32 (Addr.mk b3 0 none) fun v39 =>
 C.call n_spec_l01Xor [(.agg v38), (.agg v39)] [.agg] fun r40 =>
 C.call n_spec_l01Xor [(.agg v45), (.agg v46)] [.agg] fun r47 =>
 C.call n_spec_l01Compare [(.agg r40), (.agg r47)] [(.int .i64)] fun r48 =>
 cond (decide (r48 < 0)) (
 jt []
 ) (
 ct3 [(.slice y28.a y28.n y28.c), (.int .i64 (IntKind.wrap .i64 (s3.2 + 1)))]
 )),
 (C.ld .agg 32 (Addr.mk b3 0 none) fun v39 =>
 C.ld .agg 32 p37 fun v38 =>
 C.call n_spec_l01Xor [(.agg v38), (.agg v39)] [.agg] fun r40 =>
 C.call n_spec_l01Xor [(.agg v45), (.agg v46)] [.agg] fun r47 =>
 C.call n_spec_l01Compare [(.agg r40), (.agg r47)] [(.int .i64)] fun r48 =>
 cond (decide (r48 < 0)) (
 jt []
 ) (
 ct3 [(.slice y28.a y28.n y28.c), (.int .i64 (IntKind.wrap .i64 (s3.2 + 1)))]
 ))])])]
 ) (
 C.all [
 (C.all [
 (C.all [
 (C.all [
 (ct3 [(.slice y28.a y28.n y28.c), (.int .i64 (IntKind.wrap .i64 (s3.2 + 1)))]),
 (ct3 [(.slice y28.a y28.n y28.c), (.int .i64 (IntKind.wrap .i64 (s3.2 + 1)))])]),
 (C.all [
 (ct3 [(.slice y28.a y28.n y28.c), (.int .i64 (IntKind.wrap .i64 (s3.2 + 1)))]),
 (ct3 [(.slice y28.a y28.n y28.c), (.int .i64 (IntKind.wrap .i64 (s3.2 + 1)))])]),
 (C.all [
 (ct3 [(.slice y28.a y28.n y28.c), (.int .i64 (IntKind.wrap .i64 (s3.2 + 1)))]),
 (ct3 [(.slice y28.a y28.n y28.c), (.int .i64 (IntKind.wrap .i64 (s3.2 + 1)))])])]),
 (C.all [
 (C.all [
 (ct3 [(.slice y28.a y28.n y28.c), (.int .i64 (IntKind.wrap .i64 (s3.2 + 1)))]),
 (ct3 [(.slice y28.a y28.n y28.c), (.int .i64 (IntKind.wrap .i64 (s3.2 + 1)))])]),
 (ct3 [(.slice y28.a y28.n y28.c), (.int .i64 (IntKind.wrap .i64 (s3.2 + 1)))])]),
 (C.all [
 (C.all [
 (ct3 [(.slice y28.a y28.n y28.c), (.int .i64 (IntKind.wrap .i64 (s3.2 + 1)))]),
 (ct3 [(.slice y28.a y28.n y28.c), (.int .i64 (IntKind.wrap .i64 (s3.2 + 1)))])]),
 (ct3 [(.slice y28.a y28.n y28.c), (.int .i64 (IntKind.wrap .i64 (s3.2 + 1)))])])]),
 (C.all [
 (C.all [
 (C.all [
 (ct3 [(.slice y28.a y28.n y28.c), (.int .i64 (IntKind.wrap .i64 (s3.2 + 1)))]),
 (ct3 [(.slice y28.a y28.n y28.c), (.int .i64 (IntKind.wrap .i64 (s3.2 + 1)))])]),
 (C.all [
 (ct3 [(.slice y28.a y28.n y28.c), (.int .i64 (IntKind.wrap .i64 (s3.2 + 1)))]),
 (ct3 [(.slice y28.a y28.n y28.c), (.int .i64 (IntKind.wrap .i64 (s3.2 + 1)))])]),
 (C.all [
 (ct3 [(.slice y28.a y28.n y28.c), (.int .i64 (IntKind.wrap .i64 (s3.2 + 1)))]),
 (ct3 [(.slice y28.a y28.n y28.c), (.int .i64 (IntKind.wrap .i64 (s3.2 + 1)))])])]),
 (C.all [
 (C.all [
 (ct3 [(.slice y28.a y28.n y28.c), (.int .i64 (IntKind.wrap .i64 (s3.2 + 1)))]),
 (ct3 [(.slice y28.a y28.n y28.c), (.int .i64 (IntKind.wrap .i64 (s3.2 + 1)))])]),
 (ct3 [(.slice y28.a y28.n y28.c), (.int .i64 (IntKind.wrap .i64 (s3.2 + 1)))])]),
 (C.all [
 (C.all [
 (ct3 [(.slice y28.a y28.n y28.c), (.int .i64 (IntKind.wrap .i64 (s3.2 + 1)))]),
 (ct3 [(.slice y28.a y28.n y28.c), (.int .i64 (IntKind.wrap .i64 (s3.2 + 1)))])]),
 (ct3 [(.slice y28.a y28.n y28.c), (.int .i64 (IntKind.wrap .i64 (s3.2 + 1)))])])]),
 (C.all [
 (C.all [
 (C.all [
 (ct3 [(.slice y28.a y28.n y28.c), (.int .i64 (IntKind.wrap .i64 (s3.2 + 1)))]),
 (ct3 [(.slice y28.a y28.n y28.c), (.int .i64 (IntKind.wrap .i64 (s3.2 + 1)))])]),
 (ct3 [(.slice y28.a y28.n y28.c), (.int .i64 (IntKind.wrap .i64 (s3.2 + 1)))])]),
 (C.all [
 (C.all [
 (ct3 [(.slice y28.a y28.n y28.c), (.int .i64 (IntKind.wrap .i64 (s3.2 + 1)))]),
 (ct3 [(.slice y28.a y28.n y28.c), (.int .i64 (IntKind.wrap .i64 (s3.2 + 1)))])]),
 (ct3 [(.slice y28.a y28.n y28.c), (.int .i64 (IntKind.wrap .i64 (s3.2 + 1)))])]),
 (C.all [
 (ct3 [(.slice y28.a y28.n y28.c), (.int .i64 (IntKind.wrap .i64 (s3.2 + 1)))]),
 (ct3 [(.slice y28.a y28.n y28.c), (.int .i64 (IntKind.wrap .i64 (s3.2 + 1)))])])]),
 (C.all [
 (C.all [
 (C.all [
 (ct3 [(.slice y28.a y28.n y28.c), (.int .i64 (IntKind.wrap .i64 (s3.2 + 1)))]),
 (ct3 [(.slice y28.a y28.n y28.c), (.int .i64 (IntKind.wrap .i64 (s3.2 + 1)))])]),
 (ct3 [(.slice y28.a y28.n y28.c), (.int .i64 (IntKind.wrap .i64 (s3.2 + 1)))])]),
 (C.all [
 (C.all [
 (ct3 [(.slice y28.a y28.n y28.c), (.int .i64 (IntKind.wrap .i64 (s3.2 + 1)))]),
 (ct3 [(.slice y28.a y28.n y28.c), (.int .i64 (IntKind.wrap .i64 (s3.2 + 1)))])]),
 (ct3 [(.slice y28.a y28.n y28.c), (.int .i64 (IntKind.wrap .i64 (s3.2 + 1)))])]),
 (C.all [
 (ct3 [(.slice y28.a y28.n y28.c), (.int .i64 (IntKind.wrap .i64 (s3.2 + 1)))]),
 (ct3 [(.slice y28.a y28.n y28.c), (.int .i64 (IntKind.wrap .i64 (s3.2 + 1)))])])])]
 )
 )
 ) (
 C.ret (.slice s3.1.a s3.1.n s3.1.c)
 )
theorem spec_l01Sort_eq (C : Comb) (x0 : Sl) (x1 : Array Value) : fT C Tryz.prog ⟨[(3, [(5, .slice), (6, (.int .i64))]), (8, [(7, (.int .i64))])], [(150, [])], [8], []⟩ n_spec_l01Sort [(.slice x0.a x0.n x0.c), (.agg x1)] = spec_l01Sort C x0 x1 := by kernel_rfl
theorem spec_l01Sort_calls {R : Value → World → Prop} {w : World} (x0 : Sl) (x1 : Array Value) (h : (spec_l01Sort (real Tryz.prog R) x0 x1 : World → Prop) w) :
    Calls Tryz.prog n_spec_l01Sort [(.slice x0.a x0.n x0.c), (.agg x1)].toArray w fun e w' => ∃ v, e = .returned v ∧ R v w' := fT_sound mixed ⟨[(3, [(5, .slice), (6, (.int .i64))]), (8, [(7, (.int .i64))])], [(150, [])], [8], []⟩ (by rw [spec_l01Sort_eq]; exact h)

def ptr_impl_ledger_number (C : Comb) (x0 : Addr) (x1 : Sl) : C.St :=
 C.loop (TL [(.int .i64), (.int .i64)]) (embL [(.int .i64), (.int .i64)]) [(.int .i64 0), (.int .i64 0)] fun s1 ct1 => C.any fun _ =>
 cond (decide (s1.2 < (x1.n : Int))) (
 C.ix x1.a x1.n 32 s1.2 fun p15 =>
 C.ld .agg 32 p15 fun v16 =>
 C.new ty_impl_Key (.agg (Array.replicate 32 (.int .u8 0))) fun b8 =>
 C.st 32 (Addr.mk b8 0 none) (.agg v16) <|
 C.ld .agg 32 (Addr.mk b8 0 none) fun v19 =>
 C.call n_ptr_impl_ledger_find [(.pointer (some x0)), (.agg v19)] [(.int .i64), .bool] fun r20 =>
 cond (!r20.2) (
 C.ret (.tuple #[(.int .i64 0), (.bool false)])
 ) (
 C.ld .slice 1 ((x0.add 0).add 0) fun v30 =>
 C.ix v30.a v30.n 35 r20.1 fun p32 =>
 C.ld (.int .i64) 1 (p32.add 33) fun v34 =>
 C.sem (Builtin.max_ #[ty_int64, ty_int64] ty_int64 #[(.int .i64 s1.1), (.int .i64 (IntKind.wrap .i64 (v34 + 1)))]) (.int .i64) fun y36 =>
 ct1 [(.int .i64 y36), (.int .i64 (IntKind.wrap .i64 (s1.2 + 1)))]
 )
 ) (
 C.ret (.tuple #[(.int .i64 s1.1), (.bool true)])
 )
theorem ptr_impl_ledger_number_eq (C : Comb) (x0 : Addr) (x1 : Sl) : fT C Tryz.prog ⟨[(3, [(6, (.int .i64)), (13, (.int .i64))])], [], [], []⟩ n_ptr_impl_ledger_number [(.pointer (some x0)), (.slice x1.a x1.n x1.c)] = ptr_impl_ledger_number C x0 x1 := by kernel_rfl
theorem ptr_impl_ledger_number_calls {R : Value → World → Prop} {w : World} (x0 : Addr) (x1 : Sl) (h : (ptr_impl_ledger_number (real Tryz.prog R) x0 x1 : World → Prop) w) :
    Calls Tryz.prog n_ptr_impl_ledger_number [(.pointer (some x0)), (.slice x1.a x1.n x1.c)].toArray w fun e w' => ∃ v, e = .returned v ∧ R v w' := fT_sound mixed ⟨[(3, [(6, (.int .i64)), (13, (.int .i64))])], [], [], []⟩ (by rw [ptr_impl_ledger_number_eq]; exact h)

def spec_l01End (C : Comb) (x0 : Array Value) (x1 : Sl) (x2 : Int) : C.St :=
 C.new ty_arr8_uint32 (.agg x0) fun b3 =>
 C.new ty_impl_Key (.agg (Array.replicate 32 (.int .u8 0))) fun b6 =>
 C.call n_spec_l01Padded [(.slice x1.a x1.n x1.c), (.int .i64 x2)] [.slice] fun r13 =>
 C.loop (TL [(.int .i64)]) (embL [(.int .i64)]) [(.int .i64 0)] fun s4 ct4 => C.any fun _ =>
 cond (decide (s4 < (r13.n : Int))) (
 C.draw <|
 C.ld .agg 8 (Addr.mk b3 0 none) fun v20 =>
 C.call n_spec_l01Block [(.slice r13.a r13.n r13.c), (.int .i64 s4)] [.agg] fun r23 =>
 C.chk [⟨0, 8, (Addr.mk b3 0 none), .agg, v20⟩] <|
 C.call n_spec_l01Mix [(.agg v20), (.agg r23)] [.agg] fun r24 =>
 C.st 8 (Addr.mk b3 0 none) (.agg r24) <|
 ct4 [(.int .i64 (IntKind.wrap .i64 (s4 + 32)))]
 ) (
 C.new ty_impl_Key (.agg (Array.replicate 32 (.int .u8 0))) fun b9 =>
 C.st 32 (Addr.mk b9 0 none) (.agg (Array.replicate 32 (.int .u8 0))) <|
 C.loop (TL [(.int .i64)]) (embL [(.int .i64)]) [(.int .i64 0)] fun s9 ct9 => C.any fun _ =>
 cond (decide (s9 < 32)) (
 C.ix (some (Addr.mk b3 0 none)) 8 1 (IntKind.wrap .i64 (Int.tdiv s9 4)) fun p33 =>
 C.ld (.int .u32) 1 p33 fun v34 =>
 C.pur (eqB .shr ty_uint32 (.tmp 34) (.tmp 38) (.int .u32 v34) (.int .u64 (IntKind.wrap .u64 ((IntKind.wrap .i64 (8 * (Int.tmod s9 4))))))) (.int .u32) fun y39 =>
 C.ix (some (Addr.mk b9 0 none)) 32 1 s9 fun p41 =>
 C.st 1 p41 (.int .u8 (IntKind.wrap .u8 (y39))) <|
 ct9 [(.int .i64 (IntKind.wrap .i64 (s9 + 1)))]
 ) (
 C.ld .agg 32 (Addr.mk b9 0 none) fun v42 =>
 C.st 32 (Addr.mk b6 0 none) (.agg v42) <|
 C.ld .agg 32 (Addr.mk b6 0 none) fun z15 =>
 C.ret (.agg z15)
 )
 )
theorem spec_l01End_eq (C : Comb) (x0 : Array Value) (x1 : Sl) (x2 : Int) : fT C Tryz.prog ⟨[(3, [(8, (.int .i64))]), (8, [(10, (.int .i64))])], [], [5], []⟩ n_spec_l01End [(.agg x0), (.slice x1.a x1.n x1.c), (.int .i64 x2)] = spec_l01End C x0 x1 x2 := by kernel_rfl
theorem spec_l01End_calls {R : Value → World → Prop} {w : World} (x0 : Array Value) (x1 : Sl) (x2 : Int) (h : (spec_l01End (real Tryz.prog R) x0 x1 x2 : World → Prop) w) :
    Calls Tryz.prog n_spec_l01End [(.agg x0), (.slice x1.a x1.n x1.c), (.int .i64 x2)].toArray w fun e w' => ∃ v, e = .returned v ∧ R v w' := fT_sound mixed ⟨[(3, [(8, (.int .i64))]), (8, [(10, (.int .i64))])], [], [5], []⟩ (by rw [spec_l01End_eq]; exact h)

def spec_l01Start (C : Comb) (x0 : Int) : C.St :=
 C.new ty_arr8_uint32 (.agg (Array.replicate 8 (.int .u32 0))) fun b2 =>
 C.new ty_arr8_uint32 (.agg (Array.replicate 8 (.int .u32 0))) fun b3 =>
 C.st 8 (Addr.mk b3 0 none) (.agg (Array.replicate 8 (.int .u32 0))) <|
 C.loop (TL [(.int .i64)]) (embL [(.int .i64)]) [(.int .i64 0)] fun s3 ct3 => C.any fun _ =>
 cond (decide (s3 < 8)) (
 C.ix (some (Addr.mk b3 0 none)) 8 1 s3 fun p18 =>
 C.st 1 p18 (.int .u32 (IntKind.wrap .u32 ((IntKind.wrap .u32 (16777619 * (IntKind.wrap .u32 ((IntKind.wrap .i64 (s3 + 1)))))) + (IntKind.wrap .u32 (x0))))) <|
 ct3 [(.int .i64 (IntKind.wrap .i64 (s3 + 1)))]
 ) (
 C.ld .agg 8 (Addr.mk b3 0 none) fun v19 =>
 C.st 8 (Addr.mk b2 0 none) (.agg v19) <|
 C.ld .agg 8 (Addr.mk b2 0 none) fun z6 =>
 C.ret (.agg z6)
 )
theorem spec_l01Start_eq (C : Comb) (x0 : Int) : fT C Tryz.prog ⟨[(3, [(4, (.int .i64))])], [], [], []⟩ n_spec_l01Start [(.int .u8 x0)] = spec_l01Start C x0 := by kernel_rfl
theorem spec_l01Start_calls {R : Value → World → Prop} {w : World} (x0 : Int) (h : (spec_l01Start (real Tryz.prog R) x0 : World → Prop) w) :
    Calls Tryz.prog n_spec_l01Start [(.int .u8 x0)].toArray w fun e w' => ∃ v, e = .returned v ∧ R v w' := fT_sound mixed ⟨[(3, [(4, (.int .i64))])], [], [], []⟩ (by rw [spec_l01Start_eq]; exact h)

def impl_ValidEntry (C : Comb) (x0 : Array Value) : C.St :=
 C.new ty_impl_Entry (.agg x0) fun b1 =>
 C.ld .str 1 ((Addr.mk b1 0 none).add 0) fun v4 =>
 C.call n_impl_isName [(.string v4)] [.bool] fun r5 =>
 cond r5 (
 C.ld .str 1 ((Addr.mk b1 0 none).add 1) fun v8 =>
 C.ret (.bool (decide ((v8.size : Int) ≤ 64)))
 ) (
 C.ret (.bool false)
 )
theorem impl_ValidEntry_eq (C : Comb) (x0 : Array Value) : fT C Tryz.prog ⟨[], [], [], []⟩ n_impl_ValidEntry [(.agg x0)] = impl_ValidEntry C x0 := by kernel_rfl
theorem impl_ValidEntry_calls {R : Value → World → Prop} {w : World} (x0 : Array Value) (h : (impl_ValidEntry (real Tryz.prog R) x0 : World → Prop) w) :
    Calls Tryz.prog n_impl_ValidEntry [(.agg x0)].toArray w fun e w' => ∃ v, e = .returned v ∧ R v w' := fT_sound mixed ⟨[], [], [], []⟩ (by rw [impl_ValidEntry_eq]; exact h)

def spec_l07Number (C : Comb) (x0 : Addr) (x1 : Sl) (x2 : Sl) : C.St :=
 C.loop (TL [(.int .i64), (.int .i64)]) (embL [(.int .i64), (.int .i64)]) [(.int .i64 0), (.int .i64 0)] fun s1 ct1 => C.any fun _ =>
 cond (decide (s1.2 < (x2.n : Int))) (
 C.draw <|
 C.ld .slice 1 (x0.add 0) fun v19 =>
 C.ix x2.a x2.n 32 s1.2 fun p23 =>
 C.ld .agg 32 p23 fun v24 =>
 C.call n_spec_l07Find [(.slice x1.a x1.n x1.c), (.agg v24)] [(.int .i64)] fun r25 =>
 C.chk [⟨4, 1, (x0.add 0), .slice, v19⟩] <|
 C.ix v19.a v19.n 35 r25 fun p26 =>
 C.ld (.int .i64) 1 (p26.add 33) fun v28 =>
 C.callP n_spec_l00Max [(.int .i64 s1.1), (.int .i64 (IntKind.wrap .i64 (v28 + 1)))] [(.int .i64)] fun r30 =>
 ct1 [(.int .i64 r30), (.int .i64 (IntKind.wrap .i64 (s1.2 + 1)))]
 ) (
 C.ret (.int .i64 s1.1)
 )
theorem spec_l07Number_eq (C : Comb) (x0 : Addr) (x1 : Sl) (x2 : Sl) : fT C Tryz.prog ⟨[(3, [(7, (.int .i64)), (8, (.int .i64))])], [], [5], [330]⟩ n_spec_l07Number [(.pointer (some x0)), (.slice x1.a x1.n x1.c), (.slice x2.a x2.n x2.c)] = spec_l07Number C x0 x1 x2 := by kernel_rfl
theorem spec_l07Number_calls {R : Value → World → Prop} {w : World} (x0 : Addr) (x1 : Sl) (x2 : Sl) (h : (spec_l07Number (real Tryz.prog R) x0 x1 x2 : World → Prop) w) :
    Calls Tryz.prog n_spec_l07Number [(.pointer (some x0)), (.slice x1.a x1.n x1.c), (.slice x2.a x2.n x2.c)].toArray w fun e w' => ∃ v, e = .returned v ∧ R v w' := fT_sound mixed ⟨[(3, [(7, (.int .i64)), (8, (.int .i64))])], [], [5], [330]⟩ (by rw [spec_l07Number_eq]; exact h)

def spec_l07Copy (C : Comb) (x0 : Addr) : C.St :=
 C.new ty_impl_Book (.agg (#[(.slice none 0 0), (.slice none 0 0)])) fun b2 =>
 C.pur (Instr.build ty_impl_Book #[]) .agg fun y7 =>
 C.new ty_impl_Book (.agg (#[(.slice none 0 0), (.slice none 0 0)])) fun b3 =>
 C.st 2 (Addr.mk b3 0 none) (.agg y7) <|
 C.loop (TL [(.int .i64)]) (embL [(.int .i64)]) [(.int .i64 0)] fun s4 ct4 => C.any fun _ =>
 C.ld .slice 1 (x0.add 0) fun v12 =>
 cond (decide (s4 < (v12.n : Int))) (
 C.ld .slice 1 (x0.add 0) fun v20 =>
 C.ix v20.a v20.n 35 s4 fun p22 =>
 C.ld .agg 35 p22 fun v23 =>
 C.new ty_impl_Commit (.agg (#[(.int .u8 0), (.int .u8 0), (.int .u8 0), (.int .u8 0), (.int .u8 0), (.int .u8 0), (.int .u8 0), (.int .u8 0), (.int .u8 0), (.int .u8 0), (.int .u8 0), (.int .u8 0), (.int .u8 0), (.int .u8 0), (.int .u8 0), (.int .u8 0), (.int .u8 0), (.int .u8 0), (.int .u8 0), (.int .u8 0), (.int .u8 0), (.int .u8 0), (.int .u8 0), (.int .u8 0), (.int .u8 0), (.int .u8 0), (.int .u8 0), (.int .u8 0), (.int .u8 0), (.int .u8 0), (.int .u8 0), (.int .u8 0), (.slice none 0 0), (.int .i64 0), (.string (⟨#[]⟩ : ByteArray))])) fun b5 =>
 C.st 35 (Addr.mk b5 0 none) (.agg v23) <|
 C.sem (Instr.buildSlice ty_sl_impl_Key 0 #[]) .slice fun y24 =>
 C.ld .slice 1 ((Addr.mk b5 0 none).add 32) fun v26 =>
 C.sem (Builtin.append_ #[ty_sl_impl_Key, ty_sl_impl_Key] ty_sl_impl_Key #[(.slice y24.a y24.n y24.c), (.slice v26.a v26.n v26.c)]) .slice fun y27 =>
 C.st 1 ((Addr.mk b5 0 none).add 32) (.slice y27.a y27.n y27.c) <|
 C.ld .slice 1 ((Addr.mk b3 0 none).add 0) fun v30 =>
 C.ld .agg 35 (Addr.mk b5 0 none) fun v31 =>
 C.sem (Instr.buildSlice ty_sl_impl_Commit 1 #[(0, (.agg v31))]) .slice fun y32 =>
 C.sem (Builtin.append_ #[ty_sl_impl_Commit, ty_sl_impl_Commit] ty_sl_impl_Commit #[(.slice v30.a v30.n v30.c), (.slice y32.a y32.n y32.c)]) .slice fun y33 =>
 C.st 1 ((Addr.mk b3 0 none).add 0) (.slice y33.a y33.n y33.c) <|
 ct4 [(.int .i64 (IntKind.wrap .i64 (s4 + 1)))]
 ) (
 C.loop (TL [(.int .i64)]) (embL [(.int .i64)]) [(.int .i64 0)] fun s17 ct17 => C.any fun _ =>
 C.ld .slice 1 (x0.add 1) fun v39 =>
 cond (decide (s17 < (v39.n : Int))) (
 C.draw <|
 C.ld .slice 1 ((Addr.mk b3 0 none).add 1) fun v45 =>
 C.ld .slice 1 (x0.add 1) fun v50 =>
 C.ix v50.a v50.n 1 s17 fun p52 =>
 C.ld .slice 1 p52 fun v53 =>
 C.sem (Instr.buildSlice ty_sl_impl_Entry 0 #[]) .slice fun y46 =>
 C.chk [⟨9, 1, p52, .slice, v53⟩, ⟨6, 1, (x0.add 1), .slice, v50⟩, ⟨1, 1, ((Addr.mk b3 0 none).add 1), .slice, v45⟩] <|
 C.sem (Builtin.append_ #[ty_sl_impl_Entry, ty_sl_impl_Entry] ty_sl_impl_Entry #[(.slice y46.a y46.n y46.c), (.slice v53.a v53.n v53.c)]) .slice fun y54 =>
 C.chk [⟨6, 1, (x0.add 1), .slice, v50⟩, ⟨1, 1, ((Addr.mk b3 0 none).add 1), .slice, v45⟩] <|
 C.sem (Instr.buildSlice ty_sl_sl_impl_Entry 1 #[(0, (.slice y54.a y54.n y54.c))]) .slice fun y55 =>
 C.chk [⟨6, 1, (x0.add 1), .slice, v50⟩, ⟨1, 1, ((Addr.mk b3 0 none).add 1), .slice, v45⟩] <|
 C.sem (Builtin.append_ #[ty_sl_sl_impl_Entry, ty_sl_sl_impl_Entry] ty_sl_sl_impl_Entry #[(.slice v45.a v45.n v45.c), (.slice y55.a y55.n y55.c)]) .slice fun y56 =>
 C.chk [⟨6, 1, (x0.add 1), .slice, v50⟩] <|
 C.st 1 ((Addr.mk b3 0 none).add 1) (.slice y56.a y56.n y56.c) <|
 ct17 [(.int .i64 (IntKind.wrap .i64 (s17 + 1)))]
 ) (
 C.ld .agg 2 (Addr.mk b3 0 none) fun v58 =>
 C.st 2 (Addr.mk b2 0 none) (.agg v58) <|
 C.ld .agg 2 (Addr.mk b2 0 none) fun z28 =>
 C.ret (.agg z28)
 )
 )
theorem spec_l07Copy_eq (C : Comb) (x0 : Addr) : fT C Tryz.prog ⟨[(3, [(4, (.int .i64))]), (9, [(6, (.int .i64))])], [], [11], []⟩ n_spec_l07Copy [(.pointer (some x0))] = spec_l07Copy C x0 := by kernel_rfl
theorem spec_l07Copy_calls {R : Value → World → Prop} {w : World} (x0 : Addr) (h : (spec_l07Copy (real Tryz.prog R) x0 : World → Prop) w) :
    Calls Tryz.prog n_spec_l07Copy [(.pointer (some x0))].toArray w fun e w' => ∃ v, e = .returned v ∧ R v w' := fT_sound mixed ⟨[(3, [(4, (.int .i64))]), (9, [(6, (.int .i64))])], [], [11], []⟩ (by rw [spec_l07Copy_eq]; exact h)

def impl_EmptyMapKey (C : Comb)  : C.St :=
 C.new ty_impl_Key (.agg (Array.replicate 32 (.int .u8 0))) fun b0 =>
 C.call n_impl_hash [(.int .u8 5), (.slice none 0 0)] [.agg] fun r1 =>
 C.st 32 (Addr.mk b0 0 none) (.agg r1) <|
 C.ld .agg 32 (Addr.mk b0 0 none) fun z3 =>
 C.ret (.agg z3)
theorem impl_EmptyMapKey_eq (C : Comb)  : fT C Tryz.prog ⟨[], [], [], []⟩ n_impl_EmptyMapKey [] = impl_EmptyMapKey C  := by kernel_rfl
theorem impl_EmptyMapKey_calls {R : Value → World → Prop} {w : World}  (h : (impl_EmptyMapKey (real Tryz.prog R)  : World → Prop) w) :
    Calls Tryz.prog n_impl_EmptyMapKey [].toArray w fun e w' => ∃ v, e = .returned v ∧ R v w' := fT_sound mixed ⟨[], [], [], []⟩ (by rw [impl_EmptyMapKey_eq]; exact h)

def spec_l04Empty (C : Comb)  : C.St :=
 C.new ty_impl_Key (.agg (Array.replicate 32 (.int .u8 0))) fun b0 =>
 C.sem (Instr.buildSlice ty_sl_uint8 0 #[]) .slice fun y1 =>
 C.call n_spec_l01Hash [(.int .u8 5), (.slice y1.a y1.n y1.c)] [.agg] fun r2 =>
 C.st 32 (Addr.mk b0 0 none) (.agg r2) <|
 C.ld .agg 32 (Addr.mk b0 0 none) fun z4 =>
 C.ret (.agg z4)
theorem spec_l04Empty_eq (C : Comb)  : fT C Tryz.prog ⟨[], [], [], []⟩ n_spec_l04Empty [] = spec_l04Empty C  := by kernel_rfl
theorem spec_l04Empty_calls {R : Value → World → Prop} {w : World}  (h : (spec_l04Empty (real Tryz.prog R)  : World → Prop) w) :
    Calls Tryz.prog n_spec_l04Empty [].toArray w fun e w' => ∃ v, e = .returned v ∧ R v w' := fT_sound mixed ⟨[], [], [], []⟩ (by rw [spec_l04Empty_eq]; exact h)

def slices_Concat_sl_byte_byte (C : Comb) (x0 : Sl) : C.St :=
 C.loop (TL [(.int .i64), (.int .i64)]) (embL [(.int .i64), (.int .i64)]) [(.int .i64 0), (.int .i64 0)] fun s1 ct1 => C.any fun _ =>
 cond (decide (s1.2 < (x0.n : Int))) (
 C.ix x0.a x0.n 1 s1.2 fun p13 =>
 C.ld .slice 1 p13 fun v14 =>
 cond (decide ((IntKind.wrap .i64 (s1.1 + (v14.n : Int))) < 0)) (
 C.pur (Instr.makeInterface ty_string (.string (⟨#[108, 101, 110, 32, 111, 117, 116, 32, 111, 102, 32, 114, 97, 110, 103, 101]⟩ : ByteArray))) .val fun y21 =>
 C.fail
 ) (
 ct1 [(.int .i64 (IntKind.wrap .i64 (s1.1 + (v14.n : Int)))), (.int .i64 (IntKind.wrap .i64 (s1.2 + 1)))]
 )
 ) (
 C.call n_slices_Grow_sl_byte_byte [(.slice none 0 0), (.int .i64 s1.1)] [.slice] fun r24 =>
 C.loop (TL [.slice, (.int .i64)]) (embL [.slice, (.int .i64)]) [(.slice r24.a r24.n r24.c), (.int .i64 0)] fun s6 ct6 => C.any fun _ =>
 cond (decide (s6.2 < (x0.n : Int))) (
 C.ix x0.a x0.n 1 s6.2 fun p29 =>
 C.ld .slice 1 p29 fun v30 =>
 C.sem (Builtin.append_ #[ty_sl_uint8, ty_sl_uint8] ty_sl_uint8 #[(.slice s6.1.a s6.1.n s6.1.c), (.slice v30.a v30.n v30.c)]) .slice fun y33 =>
 ct6 [(.slice y33.a y33.n y33.c), (.int .i64 (IntKind.wrap .i64 (s6.2 + 1)))]
 ) (
 C.ret (.slice s6.1.a s6.1.n s6.1.c)
 )
 )
theorem slices_Concat_sl_byte_byte_eq (C : Comb) (x0 : Sl) : fT C Tryz.prog ⟨[(3, [(3, (.int .i64)), (11, (.int .i64))]), (11, [(6, .slice), (27, (.int .i64))])], [], [], []⟩ n_slices_Concat_sl_byte_byte [(.slice x0.a x0.n x0.c)] = slices_Concat_sl_byte_byte C x0 := by kernel_rfl
theorem slices_Concat_sl_byte_byte_calls {R : Value → World → Prop} {w : World} (x0 : Sl) (h : (slices_Concat_sl_byte_byte (real Tryz.prog R) x0 : World → Prop) w) :
    Calls Tryz.prog n_slices_Concat_sl_byte_byte [(.slice x0.a x0.n x0.c)].toArray w fun e w' => ∃ v, e = .returned v ∧ R v w' := fT_sound mixed ⟨[(3, [(3, (.int .i64)), (11, (.int .i64))]), (11, [(6, .slice), (27, (.int .i64))])], [], [], []⟩ (by rw [slices_Concat_sl_byte_byte_eq]; exact h)

end Go.Proofs.YtkifkdkjljcclaaGreat
