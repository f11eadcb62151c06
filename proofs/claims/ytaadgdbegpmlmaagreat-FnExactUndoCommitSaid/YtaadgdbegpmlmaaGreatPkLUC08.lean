/- Printed by a program of this claim's author: each Go function as a Lean function over abstract combinators, and the equation that says that T makes it of the loaded code. -/
import Derived.Test.YtaadgdbegpmlmaaGreatProg
import Derived.Test.YtaadgdbegpmlmaaGreatPkLUC07
namespace Go.Proofs.YtaadgdbegpmlmaaGreat
open Go.Sx
def impl_ValidEntries (C : Comb) (x0 : Sl) : C.St :=
 C.loop (TL [(.int .i64)]) (embL [(.int .i64)]) [(.int .i64 0)] fun s1 ct1 => C.any fun _ =>
 cond (decide (s1 < (x0.n : Int))) (
 C.ix x0.a x0.n 2 s1 fun p10 =>
 C.ld .agg 2 p10 fun v11 =>
 C.new ty_impl_Entry (.agg (#[(.string (⟨#[]⟩ : ByteArray)), (.string (⟨#[]⟩ : ByteArray))])) fun b4 =>
 C.st 2 (Addr.mk b4 0 none) (.agg v11) <|
 C.draw <|
 C.ld .agg 2 (Addr.mk b4 0 none) fun v12 =>
 C.call n_impl_ValidEntry [(.agg v12)] [.bool] fun r13 =>
 cond (!r13) (
 C.all [
 (C.ret (.bool false)),
 (C.ret (.bool false))]
 ) (
 cond (decide (s1 > 0)) (
 C.ix x0.a x0.n 2 (IntKind.wrap .i64 (s1 - 1)) fun p24 =>
 C.all [
 (C.ld .str 1 ((Addr.mk b4 0 none).add 0) fun v20 =>
 C.ld .str 1 (p24.add 0) fun v26 =>
 C.pur (eqB .leq ty_string (.tmp 20) (.tmp 26) (.string v20) (.string v26)) .bool fun y27 =>
 cond y27 (
 C.ret (.bool false)
 ) (
 ct1 [(.int .i64 (IntKind.wrap .i64 (s1 + 1)))]
 )),
 (C.ld .str 1 (p24.add 0) fun v26 =>
 C.ld .str 1 ((Addr.mk b4 0 none).add 0) fun v20 =>
 C.pur (eqB .leq ty_string (.tmp 20) (.tmp 26) (.string v20) (.string v26)) .bool fun y27 =>
 cond y27 (
 C.ret (.bool false)
 ) (
 ct1 [(.int .i64 (IntKind.wrap .i64 (s1 + 1)))]
 ))]
 ) (
 C.all [
 (ct1 [(.int .i64 (IntKind.wrap .i64 (s1 + 1)))]),
 (ct1 [(.int .i64 (IntKind.wrap .i64 (s1 + 1)))])]
 )
 )
 ) (
 C.ret (.bool (decide ((x0.n : Int) ≤ 64)))
 )
theorem impl_ValidEntries_eq (C : Comb) (x0 : Sl) : fT C Tryz.prog ⟨[(2, [(7, (.int .i64))])], [], [4], []⟩ n_impl_ValidEntries [(.slice x0.a x0.n x0.c)] = impl_ValidEntries C x0 := by kernel_rfl
theorem impl_ValidEntries_calls {R : Value → World → Prop} {w : World} (x0 : Sl) (h : (impl_ValidEntries (real Tryz.prog R) x0 : World → Prop) w) :
    Calls Tryz.prog n_impl_ValidEntries [(.slice x0.a x0.n x0.c)].toArray w fun e w' => ∃ v, e = .returned v ∧ R v w' := fT_sound mixed ⟨[(2, [(7, (.int .i64))])], [], [4], []⟩ (by rw [impl_ValidEntries_eq]; exact h)

def ptr_impl_ledger_commit (C : Comb) (x0 : Addr) (x1 : Sl) (x2 : Sl) (x3 : ByteArray) : C.St :=
 C.new ty_impl_Book (.agg (#[(.slice none 0 0), (.slice none 0 0)])) fun b8 =>
 C.new ty_impl_Key (.agg (Array.replicate 32 (.int .u8 0))) fun b9 =>
 C.call n_impl_sorted [(.slice x1.a x1.n x1.c)] [.slice] fun r19 =>
 C.join (TL []) (embL []) (fun s10 => C.any fun _ =>
 C.call n_ptr_impl_ledger_number [(.pointer (some x0)), (.slice r19.a r19.n r19.c)] [(.int .i64), .bool] fun r33 =>
 cond (!r33.2) (
 C.pur (Instr.build ty_impl_Book #[]) .agg fun y39 =>
 C.st 2 (Addr.mk b8 0 none) (.agg y39) <|
 C.st 32 (Addr.mk b9 0 none) (.agg (Array.replicate 32 (.int .u8 0))) <|
 C.ld .agg 2 (Addr.mk b8 0 none) fun z13 =>
 C.ld .agg 32 (Addr.mk b9 0 none) fun z14 =>
 C.ret (.tuple #[(.agg z13), (.agg z14), (.int .i64 6)])
 ) (
 C.ld .slice 1 (x0.add 2) fun v45 =>
 cond ((v45.n : Int) == 40) (
 C.pur (Instr.build ty_impl_Book #[]) .agg fun y48 =>
 C.st 2 (Addr.mk b8 0 none) (.agg y48) <|
 C.st 32 (Addr.mk b9 0 none) (.agg (Array.replicate 32 (.int .u8 0))) <|
 C.ld .agg 2 (Addr.mk b8 0 none) fun z17 =>
 C.ld .agg 32 (Addr.mk b9 0 none) fun z18 =>
 C.ret (.tuple #[(.agg z17), (.agg z18), (.int .i64 3)])
 ) (
 C.call n_impl_treeOf [(.slice x2.a x2.n x2.c)] [.optr] fun r51 =>
 C.call n_ptr_impl_tree_key [(.pointer r51)] [.agg] fun r52 =>
 C.pur (Instr.build ty_impl_Commit #[(0, (.agg r52)), (1, (.slice r19.a r19.n r19.c)), (2, (.int .i64 r33.1)), (3, (.string x3))]) .agg fun y56 =>
 C.new ty_impl_Commit (.agg (#[(.int .u8 0), (.int .u8 0), (.int .u8 0), (.int .u8 0), (.int .u8 0), (.int .u8 0), (.int .u8 0), (.int .u8 0), (.int .u8 0), (.int .u8 0), (.int .u8 0), (.int .u8 0), (.int .u8 0), (.int .u8 0), (.int .u8 0), (.int .u8 0), (.int .u8 0), (.int .u8 0), (.int .u8 0), (.int .u8 0), (.int .u8 0), (.int .u8 0), (.int .u8 0), (.int .u8 0), (.int .u8 0), (.int .u8 0), (.int .u8 0), (.int .u8 0), (.int .u8 0), (.int .u8 0), (.int .u8 0), (.int .u8 0), (.slice none 0 0), (.int .i64 0), (.string (⟨#[]⟩ : ByteArray))])) fun b13 =>
 C.st 35 (Addr.mk b13 0 none) (.agg y56) <|
 C.ld .agg 35 (Addr.mk b13 0 none) fun v57 =>
 C.call n_impl_Commit_key [(.agg v57)] [.agg] fun r58 =>
 C.new ty_impl_Key (.agg (Array.replicate 32 (.int .u8 0))) fun b14 =>
 C.st 32 (Addr.mk b14 0 none) (.agg r58) <|
 C.ld .agg 32 (Addr.mk b14 0 none) fun v61 =>
 C.call n_ptr_impl_ledger_find [(.pointer (some x0)), (.agg v61)] [(.int .i64), .bool] fun r62 =>
 cond r62.2 (
 C.pur (Instr.build ty_impl_Book #[]) .agg fun y66 =>
 C.st 2 (Addr.mk b8 0 none) (.agg y66) <|
 C.st 32 (Addr.mk b9 0 none) (.agg (Array.replicate 32 (.int .u8 0))) <|
 C.ld .agg 2 (Addr.mk b8 0 none) fun z29 =>
 C.ld .agg 32 (Addr.mk b9 0 none) fun z30 =>
 C.ret (.tuple #[(.agg z29), (.agg z30), (.int .i64 4)])
 ) (
 C.ld .agg 2 (x0.add 0) fun v71 =>
 C.call n_impl_Book_copied [(.agg v71)] [.agg] fun r72 =>
 C.new ty_impl_Book (.agg (#[(.slice none 0 0), (.slice none 0 0)])) fun b17 =>
 C.st 2 (Addr.mk b17 0 none) (.agg r72) <|
 C.draw <|
 C.ld .slice 1 ((Addr.mk b17 0 none).add 0) fun v74 =>
 C.ld .agg 35 (Addr.mk b13 0 none) fun v75 =>
 C.ld .slice 1 ((Addr.mk b17 0 none).add 1) fun v79 =>
 C.sem (Instr.buildSlice ty_sl_impl_Commit 1 #[(0, (.agg v75))]) .slice fun y76 =>
 C.chk [⟨6, 1, ((Addr.mk b17 0 none).add 1), .slice, v79⟩, ⟨1, 1, ((Addr.mk b17 0 none).add 0), .slice, v74⟩] <|
 C.sem (Builtin.append_ #[ty_sl_impl_Commit, ty_sl_impl_Commit] ty_sl_impl_Commit #[(.slice v74.a v74.n v74.c), (.slice y76.a y76.n y76.c)]) .slice fun y77 =>
 C.chk [⟨6, 1, ((Addr.mk b17 0 none).add 1), .slice, v79⟩] <|
 C.call n_slices_Clone_sl_impl_Entry_impl_Entry [(.slice x2.a x2.n x2.c)] [.slice] fun r81 =>
 C.chk [⟨6, 1, ((Addr.mk b17 0 none).add 1), .slice, v79⟩] <|
 C.sem (Instr.buildSlice ty_sl_sl_impl_Entry 1 #[(0, (.slice r81.a r81.n r81.c))]) .slice fun y82 =>
 C.chk [⟨6, 1, ((Addr.mk b17 0 none).add 1), .slice, v79⟩] <|
 C.sem (Builtin.append_ #[ty_sl_sl_impl_Entry, ty_sl_sl_impl_Entry] ty_sl_sl_impl_Entry #[(.slice v79.a v79.n v79.c), (.slice y82.a y82.n y82.c)]) .slice fun y83 =>
 C.st 1 ((Addr.mk b17 0 none).add 0) (.slice y77.a y77.n y77.c) <|
 C.st 1 ((Addr.mk b17 0 none).add 1) (.slice y83.a y83.n y83.c) <|
 C.draw <|
 C.ld .agg 2 (Addr.mk b17 0 none) fun v86 =>
 C.ld .agg 32 (Addr.mk b14 0 none) fun v87 =>
 C.st 2 (Addr.mk b8 0 none) (.agg v86) <|
 C.chk [⟨1, 32, (Addr.mk b14 0 none), .agg, v87⟩] <|
 C.st 32 (Addr.mk b9 0 none) (.agg v87) <|
 C.ld .agg 2 (Addr.mk b8 0 none) fun z44 =>
 C.ld .agg 32 (Addr.mk b9 0 none) fun z45 =>
 C.ret (.tuple #[(.agg z44), (.agg z45), (.int .i64 0)])
 )
 )
 )
 ) fun jt =>
 cond (decide ((r19.n : Int) > 3)) (
 C.pur (Instr.build ty_impl_Book #[]) .agg fun y28 =>
 C.st 2 (Addr.mk b8 0 none) (.agg y28) <|
 C.st 32 (Addr.mk b9 0 none) (.agg (Array.replicate 32 (.int .u8 0))) <|
 C.ld .agg 2 (Addr.mk b8 0 none) fun z5 =>
 C.ld .agg 32 (Addr.mk b9 0 none) fun z6 =>
 C.ret (.tuple #[(.agg z5), (.agg z6), (.int .i64 2)])
 ) (
 cond (decide ((x3.size : Int) > 64)) (
 C.pur (Instr.build ty_impl_Book #[]) .agg fun y28 =>
 C.st 2 (Addr.mk b8 0 none) (.agg y28) <|
 C.st 32 (Addr.mk b9 0 none) (.agg (Array.replicate 32 (.int .u8 0))) <|
 C.ld .agg 2 (Addr.mk b8 0 none) fun z8 =>
 C.ld .agg 32 (Addr.mk b9 0 none) fun z9 =>
 C.ret (.tuple #[(.agg z8), (.agg z9), (.int .i64 2)])
 ) (
 jt []
 )
 )
theorem ptr_impl_ledger_commit_eq (C : Comb) (x0 : Addr) (x1 : Sl) (x2 : Sl) (x3 : ByteArray) : fT C Tryz.prog ⟨[], [(81, [])], [15, 16], []⟩ n_ptr_impl_ledger_commit [(.pointer (some x0)), (.slice x1.a x1.n x1.c), (.slice x2.a x2.n x2.c), (.string x3)] = ptr_impl_ledger_commit C x0 x1 x2 x3 := by kernel_rfl
theorem ptr_impl_ledger_commit_calls {R : Value → World → Prop} {w : World} (x0 : Addr) (x1 : Sl) (x2 : Sl) (x3 : ByteArray) (h : (ptr_impl_ledger_commit (real Tryz.prog R) x0 x1 x2 x3 : World → Prop) w) :
    Calls Tryz.prog n_ptr_impl_ledger_commit [(.pointer (some x0)), (.slice x1.a x1.n x1.c), (.slice x2.a x2.n x2.c), (.string x3)].toArray w fun e w' => ∃ v, e = .returned v ∧ R v w' := fT_sound mixed ⟨[], [(81, [])], [15, 16], []⟩ (by rw [ptr_impl_ledger_commit_eq]; exact h)

def spec_l07Book (C : Comb) (x0 : Addr) : C.St :=
 C.join (TL []) (embL []) (fun s4 => C.any fun _ =>
 C.sem (Instr.buildSlice ty_sl_impl_Key 0 #[]) .slice fun y29 =>
 C.loop (TL [.slice, (.int .i64)]) (embL [.slice, (.int .i64)]) [(.slice y29.a y29.n y29.c), (.int .i64 0)] fun s6 ct6 => C.any fun _ =>
 C.ld .slice 1 (x0.add 0) fun v34 =>
 cond (decide (s6.2 < (v34.n : Int))) (
 C.ld .slice 1 (x0.add 0) fun v42 =>
 C.ix v42.a v42.n 35 s6.2 fun p44 =>
 C.call n_spec_l07Ok [(.pointer (some p44))] [.bool] fun r46 =>
 cond (!r46) (
 C.ret (.bool false)
 ) (
 C.ld .slice 1 (x0.add 1) fun v52 =>
 C.ix v52.a v52.n 1 s6.2 fun p54 =>
 C.ld .slice 1 p54 fun v55 =>
 C.call n_spec_MapKey [(.slice v55.a v55.n v55.c)] [.agg, (.int .i64)] fun r56 =>
 C.new ty_impl_Key (.agg (Array.replicate 32 (.int .u8 0))) fun b6 =>
 C.st 32 (Addr.mk b6 0 none) (.agg r56.1) <|
 C.join (TL []) (embL []) (fun s19 => C.any fun _ =>
 C.loop (TL [(.int .i64)]) (embL [(.int .i64)]) [(.int .i64 0)] fun s20 ct20 => C.any fun _ =>
 C.ld .slice 1 (p44.add 32) fun v73 =>
 cond (decide (s20 < (v73.n : Int))) (
 C.ld .slice 1 (p44.add 32) fun v82 =>
 C.ix v82.a v82.n 32 s20 fun p84 =>
 C.ld .agg 32 p84 fun v85 =>
 C.call n_spec_l01Has [(.slice s6.1.a s6.1.n s6.1.c), (.agg v85)] [.bool] fun r86 =>
 cond (!r86) (
 C.ret (.bool false)
 ) (
 ct20 [(.int .i64 (IntKind.wrap .i64 (s20 + 1)))]
 )
 ) (
 C.call n_spec_l07Key [(.pointer (some p44))] [.agg] fun r89 =>
 C.new ty_impl_Key (.agg (Array.replicate 32 (.int .u8 0))) fun b9 =>
 C.st 32 (Addr.mk b9 0 none) (.agg r89) <|
 C.draw <|
 C.ld (.int .i64) 1 (p44.add 33) fun v93 =>
 C.ld .slice 1 (p44.add 32) fun v99 =>
 C.call n_spec_l07Number [(.pointer (some x0)), (.slice s6.1.a s6.1.n s6.1.c), (.slice v99.a v99.n v99.c)] [(.int .i64)] fun r100 =>
 C.chk [⟨3, 1, (p44.add 33), (.int .i64), v93⟩] <|
 cond (v93 != r100) (
 C.chk [⟨3, 1, (p44.add 33), (.int .i64), v93⟩] <|
 C.chk [⟨3, 1, (p44.add 33), (.int .i64), v93⟩] <|
 C.ret (.bool false)
 ) (
 C.ld .agg 32 (Addr.mk b9 0 none) fun v104 =>
 C.chk [⟨3, 1, (p44.add 33), (.int .i64), v93⟩] <|
 C.call n_spec_l01Has [(.slice s6.1.a s6.1.n s6.1.c), (.agg v104)] [.bool] fun r105 =>
 C.chk [⟨3, 1, (p44.add 33), (.int .i64), v93⟩] <|
 cond r105 (
 C.ret (.bool false)
 ) (
 C.ld .agg 32 (Addr.mk b9 0 none) fun v108 =>
 C.sem (Instr.buildSlice ty_sl_impl_Key 1 #[(0, (.agg v108))]) .slice fun y109 =>
 C.sem (Builtin.append_ #[ty_sl_impl_Key, ty_sl_impl_Key] ty_sl_impl_Key #[(.slice s6.1.a s6.1.n s6.1.c), (.slice y109.a y109.n y109.c)]) .slice fun y110 =>
 ct6 [(.slice y110.a y110.n y110.c), (.int .i64 (IntKind.wrap .i64 (s6.2 + 1)))]
 )
 )
 )
 ) fun jt =>
 C.draw <|
 cond (r56.2 != 0) (
 C.ret (.bool false)
 ) (
 C.ld .agg 32 (Addr.mk b6 0 none) fun v62 =>
 C.ld .agg 32 (p44.add 0) fun v66 =>
 C.pur (eqB .neq ty_impl_Key (.tmp 62) (.tmp 66) (.agg v62) (.agg v66)) .bool fun y67 =>
 cond y67 (
 C.ret (.bool false)
 ) (
 jt []
 )
 )
 )
 ) (
 C.ret (.bool true)
 )
 ) fun jt =>
 C.draw <|
 C.ld .slice 1 (x0.add 0) fun v13 =>
 cond (decide ((v13.n : Int) > 40)) (
 C.ret (.bool false)
 ) (
 C.ld .slice 1 (x0.add 1) fun v20 =>
 C.ld .slice 1 (x0.add 0) fun v25 =>
 cond ((v20.n : Int) != (v25.n : Int)) (
 C.ret (.bool false)
 ) (
 jt []
 )
 )
theorem spec_l07Book_eq (C : Comb) (x0 : Addr) : fT C Tryz.prog ⟨[(5, [(3, .slice), (4, (.int .i64))]), (14, [(8, (.int .i64))])], [(84, []), (204, [])], [19], []⟩ n_spec_l07Book [(.pointer (some x0))] = spec_l07Book C x0 := by kernel_rfl
theorem spec_l07Book_calls {R : Value → World → Prop} {w : World} (x0 : Addr) (h : (spec_l07Book (real Tryz.prog R) x0 : World → Prop) w) :
    Calls Tryz.prog n_spec_l07Book [(.pointer (some x0))].toArray w fun e w' => ∃ v, e = .returned v ∧ R v w' := fT_sound mixed ⟨[(5, [(3, .slice), (4, (.int .i64))]), (14, [(8, (.int .i64))])], [(84, []), (204, [])], [19], []⟩ (by rw [spec_l07Book_eq]; exact h)

def spec_ValidEntries (C : Comb) (x0 : Sl) : C.St :=
 C.call n_spec_l04Ok [(.slice x0.a x0.n x0.c)] [.bool] fun r4 =>
 C.ret (.bool r4)
theorem spec_ValidEntries_eq (C : Comb) (x0 : Sl) : fT C Tryz.prog ⟨[], [], [], []⟩ n_spec_ValidEntries [(.slice x0.a x0.n x0.c)] = spec_ValidEntries C x0 := by kernel_rfl
theorem spec_ValidEntries_calls {R : Value → World → Prop} {w : World} (x0 : Sl) (h : (spec_ValidEntries (real Tryz.prog R) x0 : World → Prop) w) :
    Calls Tryz.prog n_spec_ValidEntries [(.slice x0.a x0.n x0.c)].toArray w fun e w' => ∃ v, e = .returned v ∧ R v w' := fT_sound mixed ⟨[], [], [], []⟩ (by rw [spec_ValidEntries_eq]; exact h)

def spec_l07Commit (C : Comb) (x0 : Addr) (x1 : Sl) (x2 : Sl) (x3 : ByteArray) : C.St :=
 C.new ty_impl_Book (.agg (#[(.slice none 0 0), (.slice none 0 0)])) fun b8 =>
 C.new ty_impl_Key (.agg (Array.replicate 32 (.int .u8 0))) fun b9 =>
 C.call n_spec_l01Sort [(.slice x1.a x1.n x1.c), (.agg (Array.replicate 32 (.int .u8 0)))] [.slice] fun r21 =>
 C.join (TL []) (embL []) (fun s10 => C.any fun _ =>
 C.call n_spec_l07Keys [(.pointer (some x0))] [.slice] fun r33 =>
 C.loop (TL [(.int .i64)]) (embL [(.int .i64)]) [(.int .i64 0)] fun s12 ct12 => C.any fun _ =>
 cond (decide (s12 < (r21.n : Int))) (
 C.ix r21.a r21.n 32 s12 fun p43 =>
 C.ld .agg 32 p43 fun v44 =>
 C.call n_spec_l01Has [(.slice r33.a r33.n r33.c), (.agg v44)] [.bool] fun r45 =>
 cond (!r45) (
 C.pur (Instr.build ty_impl_Book #[]) .agg fun y47 =>
 C.st 2 (Addr.mk b8 0 none) (.agg y47) <|
 C.st 32 (Addr.mk b9 0 none) (.agg (Array.replicate 32 (.int .u8 0))) <|
 C.ld .agg 2 (Addr.mk b8 0 none) fun z17 =>
 C.ld .agg 32 (Addr.mk b9 0 none) fun z18 =>
 C.ret (.tuple #[(.agg z17), (.agg z18), (.int .i64 6)])
 ) (
 ct12 [(.int .i64 (IntKind.wrap .i64 (s12 + 1)))]
 )
 ) (
 cond ((r33.n : Int) == 40) (
 C.pur (Instr.build ty_impl_Book #[]) .agg fun y52 =>
 C.st 2 (Addr.mk b8 0 none) (.agg y52) <|
 C.st 32 (Addr.mk b9 0 none) (.agg (Array.replicate 32 (.int .u8 0))) <|
 C.ld .agg 2 (Addr.mk b8 0 none) fun z20 =>
 C.ld .agg 32 (Addr.mk b9 0 none) fun z21 =>
 C.ret (.tuple #[(.agg z20), (.agg z21), (.int .i64 3)])
 ) (
 C.call n_spec_MapKey [(.slice x2.a x2.n x2.c)] [.agg, (.int .i64)] fun r56 =>
 C.new ty_impl_Key (.agg (Array.replicate 32 (.int .u8 0))) fun b14 =>
 C.st 32 (Addr.mk b14 0 none) (.agg r56.1) <|
 cond (r56.2 != 0) (
 C.pur (Instr.build ty_impl_Book #[]) .agg fun y61 =>
 C.st 2 (Addr.mk b8 0 none) (.agg y61) <|
 C.st 32 (Addr.mk b9 0 none) (.agg (Array.replicate 32 (.int .u8 0))) <|
 C.ld .agg 2 (Addr.mk b8 0 none) fun z25 =>
 C.ld .agg 32 (Addr.mk b9 0 none) fun z26 =>
 C.ret (.tuple #[(.agg z25), (.agg z26), (.int .i64 r56.2)])
 ) (
 C.join (TL [.ptr]) (embL [.ptr]) (fun s34 => C.any fun _ =>
 C.call n_spec_l07Key [(.pointer (some s34))] [.agg] fun r72 =>
 C.new ty_impl_Key (.agg (Array.replicate 32 (.int .u8 0))) fun b17 =>
 C.st 32 (Addr.mk b17 0 none) (.agg r72) <|
 C.ld .agg 32 (Addr.mk b17 0 none) fun v74 =>
 C.call n_spec_l01Has [(.slice r33.a r33.n r33.c), (.agg v74)] [.bool] fun r75 =>
 cond r75 (
 C.pur (Instr.build ty_impl_Book #[]) .agg fun y76 =>
 C.st 2 (Addr.mk b8 0 none) (.agg y76) <|
 C.st 32 (Addr.mk b9 0 none) (.agg (Array.replicate 32 (.int .u8 0))) <|
 C.ld .agg 2 (Addr.mk b8 0 none) fun z40 =>
 C.ld .agg 32 (Addr.mk b9 0 none) fun z41 =>
 C.ret (.tuple #[(.agg z40), (.agg z41), (.int .i64 4)])
 ) (
 C.call n_spec_l07Copy [(.pointer (some x0))] [.agg] fun r79 =>
 C.new ty_impl_Book (.agg (#[(.slice none 0 0), (.slice none 0 0)])) fun b18 =>
 C.st 2 (Addr.mk b18 0 none) (.agg r79) <|
 C.ld .slice 1 ((Addr.mk b18 0 none).add 0) fun v81 =>
 C.ld .agg 35 s34 fun v82 =>
 C.sem (Instr.buildSlice ty_sl_impl_Commit 1 #[(0, (.agg v82))]) .slice fun y83 =>
 C.sem (Builtin.append_ #[ty_sl_impl_Commit, ty_sl_impl_Commit] ty_sl_impl_Commit #[(.slice v81.a v81.n v81.c), (.slice y83.a y83.n y83.c)]) .slice fun y84 =>
 C.st 1 ((Addr.mk b18 0 none).add 0) (.slice y84.a y84.n y84.c) <|
 C.draw <|
 C.ld .slice 1 ((Addr.mk b18 0 none).add 1) fun v87 =>
 C.sem (Instr.buildSlice ty_sl_impl_Entry 0 #[]) .slice fun y88 =>
 C.chk [⟨1, 1, ((Addr.mk b18 0 none).add 1), .slice, v87⟩] <|
 C.sem (Builtin.append_ #[ty_sl_impl_Entry, ty_sl_impl_Entry] ty_sl_impl_Entry #[(.slice y88.a y88.n y88.c), (.slice x2.a x2.n x2.c)]) .slice fun y90 =>
 C.chk [⟨1, 1, ((Addr.mk b18 0 none).add 1), .slice, v87⟩] <|
 C.sem (Instr.buildSlice ty_sl_sl_impl_Entry 1 #[(0, (.slice y90.a y90.n y90.c))]) .slice fun y91 =>
 C.chk [⟨1, 1, ((Addr.mk b18 0 none).add 1), .slice, v87⟩] <|
 C.sem (Builtin.append_ #[ty_sl_sl_impl_Entry, ty_sl_sl_impl_Entry] ty_sl_sl_impl_Entry #[(.slice v87.a v87.n v87.c), (.slice y91.a y91.n y91.c)]) .slice fun y92 =>
 C.st 1 ((Addr.mk b18 0 none).add 1) (.slice y92.a y92.n y92.c) <|
 C.draw <|
 C.ld .agg 2 (Addr.mk b18 0 none) fun v94 =>
 C.ld .agg 32 (Addr.mk b17 0 none) fun v95 =>
 C.st 2 (Addr.mk b8 0 none) (.agg v94) <|
 C.chk [⟨1, 32, (Addr.mk b17 0 none), .agg, v95⟩] <|
 C.st 32 (Addr.mk b9 0 none) (.agg v95) <|
 C.ld .agg 2 (Addr.mk b8 0 none) fun z55 =>
 C.ld .agg 32 (Addr.mk b9 0 none) fun z56 =>
 C.ret (.tuple #[(.agg z55), (.agg z56), (.int .i64 0)])
 )
 ) fun jt =>
 C.draw <|
 C.ld .agg 32 (Addr.mk b14 0 none) fun v64 =>
 C.all [
 (C.call n_spec_l07Number [(.pointer (some x0)), (.slice r33.a r33.n r33.c), (.slice r21.a r21.n r21.c)] [(.int .i64)] fun r69 =>
 C.chk [⟨0, 32, (Addr.mk b14 0 none), .agg, v64⟩] <|
 C.pur (Instr.build ty_impl_Commit #[(0, (.agg v64)), (1, (.slice r21.a r21.n r21.c)), (2, (.int .i64 r69)), (3, (.string x3))]) .agg fun y71 =>
 C.new ty_impl_Commit (.agg (#[(.int .u8 0), (.int .u8 0), (.int .u8 0), (.int .u8 0), (.int .u8 0), (.int .u8 0), (.int .u8 0), (.int .u8 0), (.int .u8 0), (.int .u8 0), (.int .u8 0), (.int .u8 0), (.int .u8 0), (.int .u8 0), (.int .u8 0), (.int .u8 0), (.int .u8 0), (.int .u8 0), (.int .u8 0), (.int .u8 0), (.int .u8 0), (.int .u8 0), (.int .u8 0), (.int .u8 0), (.int .u8 0), (.int .u8 0), (.int .u8 0), (.int .u8 0), (.int .u8 0), (.int .u8 0), (.int .u8 0), (.int .u8 0), (.slice none 0 0), (.int .i64 0), (.string (⟨#[]⟩ : ByteArray))])) fun b16 =>
 C.chk [⟨0, 32, (Addr.mk b14 0 none), .agg, v64⟩] <|
 C.st 35 (Addr.mk b16 0 none) (.agg y71) <|
 jt [(.pointer (some (Addr.mk b16 0 none)))]),
 (C.new ty_impl_Commit (.agg (#[(.int .u8 0), (.int .u8 0), (.int .u8 0), (.int .u8 0), (.int .u8 0), (.int .u8 0), (.int .u8 0), (.int .u8 0), (.int .u8 0), (.int .u8 0), (.int .u8 0), (.int .u8 0), (.int .u8 0), (.int .u8 0), (.int .u8 0), (.int .u8 0), (.int .u8 0), (.int .u8 0), (.int .u8 0), (.int .u8 0), (.int .u8 0), (.int .u8 0), (.int .u8 0), (.int .u8 0), (.int .u8 0), (.int .u8 0), (.int .u8 0), (.int .u8 0), (.int .u8 0), (.int .u8 0), (.int .u8 0), (.int .u8 0), (.slice none 0 0), (.int .i64 0), (.string (⟨#[]⟩ : ByteArray))])) fun b16 =>
 C.chk [⟨0, 32, (Addr.mk b14 0 none), .agg, v64⟩] <|
 C.call n_spec_l07Number [(.pointer (some x0)), (.slice r33.a r33.n r33.c), (.slice r21.a r21.n r21.c)] [(.int .i64)] fun r69 =>
 C.chk [⟨0, 32, (Addr.mk b14 0 none), .agg, v64⟩] <|
 C.pur (Instr.build ty_impl_Commit #[(0, (.agg v64)), (1, (.slice r21.a r21.n r21.c)), (2, (.int .i64 r69)), (3, (.string x3))]) .agg fun y71 =>
 C.st 35 (Addr.mk b16 0 none) (.agg y71) <|
 jt [(.pointer (some (Addr.mk b16 0 none)))])]
 )
 )
 )
 ) fun jt =>
 cond (decide ((r21.n : Int) > 3)) (
 C.pur (Instr.build ty_impl_Book #[]) .agg fun y30 =>
 C.st 2 (Addr.mk b8 0 none) (.agg y30) <|
 C.st 32 (Addr.mk b9 0 none) (.agg (Array.replicate 32 (.int .u8 0))) <|
 C.ld .agg 2 (Addr.mk b8 0 none) fun z5 =>
 C.ld .agg 32 (Addr.mk b9 0 none) fun z6 =>
 C.ret (.tuple #[(.agg z5), (.agg z6), (.int .i64 2)])
 ) (
 cond (decide ((x3.size : Int) > 64)) (
 C.pur (Instr.build ty_impl_Book #[]) .agg fun y30 =>
 C.st 2 (Addr.mk b8 0 none) (.agg y30) <|
 C.st 32 (Addr.mk b9 0 none) (.agg (Array.replicate 32 (.int .u8 0))) <|
 C.ld .agg 2 (Addr.mk b8 0 none) fun z8 =>
 C.ld .agg 32 (Addr.mk b9 0 none) fun z9 =>
 C.ret (.tuple #[(.agg z8), (.agg z9), (.int .i64 2)])
 ) (
 jt []
 )
 )
theorem spec_l07Commit_eq (C : Comb) (x0 : Addr) (x1 : Sl) (x2 : Sl) (x3 : ByteArray) : fT C Tryz.prog ⟨[(6, [(13, (.int .i64))])], [(87, []), (46, [(16, .ptr)])], [15, 21, 22], []⟩ n_spec_l07Commit [(.pointer (some x0)), (.slice x1.a x1.n x1.c), (.slice x2.a x2.n x2.c), (.string x3)] = spec_l07Commit C x0 x1 x2 x3 := by kernel_rfl
theorem spec_l07Commit_calls {R : Value → World → Prop} {w : World} (x0 : Addr) (x1 : Sl) (x2 : Sl) (x3 : ByteArray) (h : (spec_l07Commit (real Tryz.prog R) x0 x1 x2 x3 : World → Prop) w) :
    Calls Tryz.prog n_spec_l07Commit [(.pointer (some x0)), (.slice x1.a x1.n x1.c), (.slice x2.a x2.n x2.c), (.string x3)].toArray w fun e w' => ∃ v, e = .returned v ∧ R v w' := fT_sound mixed ⟨[(6, [(13, (.int .i64))])], [(87, []), (46, [(16, .ptr)])], [15, 21, 22], []⟩ (by rw [spec_l07Commit_eq]; exact h)

def spec_l07Keys (C : Comb) (x0 : Addr) : C.St :=
 C.sem (Instr.buildSlice ty_sl_impl_Key 0 #[]) .slice fun y5 =>
 C.loop (TL [.slice, (.int .i64)]) (embL [.slice, (.int .i64)]) [(.slice y5.a y5.n y5.c), (.int .i64 0)] fun s2 ct2 => C.any fun _ =>
 C.ld .slice 1 (x0.add 0) fun v10 =>
 cond (decide (s2.2 < (v10.n : Int))) (
 C.ld .slice 1 (x0.add 0) fun v19 =>
 C.ix v19.a v19.n 35 s2.2 fun p21 =>
 C.call n_spec_l07Key [(.pointer (some p21))] [.agg] fun r22 =>
 C.sem (Instr.buildSlice ty_sl_impl_Key 1 #[(0, (.agg r22))]) .slice fun y23 =>
 C.sem (Builtin.append_ #[ty_sl_impl_Key, ty_sl_impl_Key] ty_sl_impl_Key #[(.slice s2.1.a s2.1.n s2.1.c), (.slice y23.a y23.n y23.c)]) .slice fun y24 =>
 ct2 [(.slice y24.a y24.n y24.c), (.int .i64 (IntKind.wrap .i64 (s2.2 + 1)))]
 ) (
 C.ret (.slice s2.1.a s2.1.n s2.1.c)
 )
theorem spec_l07Keys_eq (C : Comb) (x0 : Addr) : fT C Tryz.prog ⟨[(3, [(3, .slice), (4, (.int .i64))])], [], [], []⟩ n_spec_l07Keys [(.pointer (some x0))] = spec_l07Keys C x0 := by kernel_rfl
theorem spec_l07Keys_calls {R : Value → World → Prop} {w : World} (x0 : Addr) (h : (spec_l07Keys (real Tryz.prog R) x0 : World → Prop) w) :
    Calls Tryz.prog n_spec_l07Keys [(.pointer (some x0))].toArray w fun e w' => ∃ v, e = .returned v ∧ R v w' := fT_sound mixed ⟨[(3, [(3, .slice), (4, (.int .i64))])], [], [], []⟩ (by rw [spec_l07Keys_eq]; exact h)

def spec_l01Sort (C : Comb) (x0 : Sl) (x1 : Array Value) : C.St :=
 C.new ty_impl_Key (.agg x1) fun b3 =>
 C.sem (Instr.buildSlice ty_sl_impl_Key 0 #[]) .slice fun y9 =>
 C.loop (TL [.slice, (.int .i64)]) (embL [.slice, (.int .i64)]) [(.slice y9.a y9.n y9.c), (.int .i64 0)] fun s3 ct3 => C.any fun _ =>
 cond (decide (s3.2 < (x0.n : Int))) (
 C.ix x0.a x0.n 32 s3.2 fun p19 =>
 C.ld .agg 32 p19 fun v20 =>
 C.call n_spec_l01Has [(.slice s3.1.a s3.1.n s3.1.c), (.agg v20)] [.bool] fun r21 =>
 cond r21 (
 ct3 [(.slice s3.1.a s3.1.n s3.1.c), (.int .i64 (IntKind.wrap .i64 (s3.2 + 1)))]
 ) (
 C.ix x0.a x0.n 32 s3.2 fun p25 =>
 C.ld .agg 32 p25 fun v26 =>
 C.sem (Instr.buildSlice ty_sl_impl_Key 1 #[(0, (.agg v26))]) .slice fun y27 =>
 C.sem (Builtin.append_ #[ty_sl_impl_Key, ty_sl_impl_Key] ty_sl_impl_Key #[(.slice s3.1.a s3.1.n s3.1.c), (.slice y27.a y27.n y27.c)]) .slice fun y28 =>
 C.loop (TL [(.int .i64)]) (embL [(.int .i64)]) [(.int .i64 (IntKind.wrap .i64 ((y28.n : Int) - 1)))] fun s11 ct11 => C.any fun _ =>
 C.join (TL []) (embL []) (fun s216 => C.any fun _ =>
 C.ix y28.a y28.n 32 s11 fun p55 =>
 C.ld .agg 32 p55 fun v56 =>
 C.new ty_impl_Key (.agg (Array.replicate 32 (.int .u8 0))) fun b8 =>
 C.st 32 (Addr.mk b8 0 none) (.agg v56) <|
 C.ix y28.a y28.n 32 (IntKind.wrap .i64 (s11 - 1)) fun p62 =>
 C.ld .agg 32 p62 fun v63 =>
 C.ix y28.a y28.n 32 s11 fun p64 =>
 C.st 32 p64 (.agg v63) <|
 C.ld .agg 32 (Addr.mk b8 0 none) fun v68 =>
 C.ix y28.a y28.n 32 (IntKind.wrap .i64 (s11 - 1)) fun p69 =>
 C.st 32 p69 (.agg v68) <|
 ct11 [(.int .i64 (IntKind.wrap .i64 (s11 - 1)))]
 ) fun jt =>
 C.draw <|
 cond (decide (s11 > 0)) (
 C.ix y28.a y28.n 32 s11 fun p37 =>
 C.ix y28.a y28.n 32 (IntKind.wrap .i64 (s11 - 1)) fun p44 =>
 C.all [
 (C.ld .agg 32 p37 fun v38 =>
 C.all [
 (C.ld .agg 32 (Addr.mk b3 0 none) fun v39 =>
 C.all [
 (C.call n_spec_l01Xor [(.agg v38), (.agg v39)] [.agg] fun r40 =>
 C.all [
 (C.ld .agg 32 p44 fun v45 =>
 C.ld .agg 32 (Addr.mk b3 0 none) fun v46 =>
 C.call n_spec_l01Xor [(.agg v45), (.agg v46)] [.agg] fun r47 =>
 C.call n_spec_l01Compare [(.agg r40), (.agg r47)] [(.int .i64)] fun r48 =>
 cond (decide (r48 < 0)) (
 jt []
 ) (
 ct3 [(.slice y28.a y28.n y28.c), (.int .i64 (IntKind.wrap .i64 (s3.2 + 1)))]
 )),
 (C.ld .agg 32 (Addr.mk b3 0 none) fun v46 =>
 C.ld .agg 32 p44 fun v45 =>
 C.call n_spec_l01Xor [(.agg v45), (.agg v46)] [.agg] fun r47 =>
 C.call n_spec_l01Compare [(.agg r40), (.agg r47)] [(.int .i64)] fun r48 =>
 cond (decide (r48 < 0)) (
 jt []
 ) (
 ct3 [(.slice y28.a y28.n y28.c), (.int .i64 (IntKind.wrap .i64 (s3.2 + 1)))]
 ))]),
 (C.ld .agg 32 p44 fun v45 =>
 C.all [
 (C.call n_spec_l01Xor [(.agg v38), (.agg v39)] [.agg] fun r40 =>
 C.ld .agg 32 (Addr.mk b3 0 none) fun v46 =>
 C.call n_spec_l01Xor [(.agg v45), (.agg v46)] [.agg] fun r47 =>
 C.call n_spec_l01Compare [(.agg r40), (.agg r47)] [(.int .i64)] fun r48 =>
 cond (decide (r48 < 0)) (
 jt []
 ) (
 ct3 [(.slice y28.a y28.n y28.c), (.int .i64 (IntKind.wrap .i64 (s3.2 + 1)))]
 )),
 (C.ld .agg 32 (Addr.mk b3 0 none) fun v46 =>
 C.call n_spec_l01Xor [(.agg v38), (.agg v39)] [.agg] fun r40 =>
 C.call n_spec_l01Xor [(.agg v45), (.agg v46)] [.agg] fun r47 =>
 C.call n_spec_l01Compare [(.agg r40), (.agg r47)] [(.int .i64)] fun r48 =>
 cond (decide (r48 < 0)) (
 jt []
 ) (
 ct3 [(.slice y28.a y28.n y28.c), (.int .i64 (IntKind.wrap .i64 (s3.2 + 1)))]
 ))]),
 (C.ld .agg 32 (Addr.mk b3 0 none) fun v46 =>
 C.all [
 (C.call n_spec_l01Xor [(.agg v38), (.agg v39)] [.agg] fun r40 =>
 C.ld .agg 32 p44 fun v45 =>
 C.call n_spec_l01Xor [(.agg v45), (.agg v46)] [.agg] fun r47 =>
 C.call n_spec_l01Compare [(.agg r40), (.agg r47)] [(.int .i64)] fun r48 =>
 cond (decide (r48 < 0)) (
 jt []
 ) (
 ct3 [(.slice y28.a y28.n y28.c), (.int .i64 (IntKind.wrap .i64 (s3.2 + 1)))]
 )),
 (C.ld .agg 32 p44 fun v45 =>
 C.call n_spec_l01Xor [(.agg v38), (.agg v39)] [.agg] fun r40 =>
 C.call n_spec_l01Xor [(.agg v45), (.agg v46)] [.agg] fun r47 =>
 C.call n_spec_l01Compare [(.agg r40), (.agg r47)] [(.int .i64)] fun r48 =>
 cond (decide (r48 < 0)) (
 jt []
 ) (
 ct3 [(.slice y28.a y28.n y28.c), (.int .i64 (IntKind.wrap .i64 (s3.2 + 1)))]
 ))])]),
 (C.ld .agg 32 p44 fun v45 =>
 C.all [
 (C.ld .agg 32 (Addr.mk b3 0 none) fun v39 =>
 C.all [
 (C.call n_spec_l01Xor [(.agg v38), (.agg v39)] [.agg] fun r40 =>
 C.ld .agg 32 (Addr.mk b3 0 none) fun v46 =>
 C.call n_spec_l01Xor [(.agg v45), (.agg v46)] [.agg] fun r47 =>
 C.call n_spec_l01Compare [(.agg r40), (.agg r47)] [(.int .i64)] fun r48 =>
 cond (decide (r48 < 0)) (
 jt []
 ) (
 ct3 [(.slice y28.a y28.n y28.c), (.int .i64 (IntKind.wrap .i64 (s3.2 + 1)))]
 )),
 (C.ld .agg 32 (Addr.mk b3 0 none) fun v46 =>
 C.call n_spec_l01Xor [(.agg v38), (.agg v39)] [.agg] fun r40 =>
 C.call n_spec_l01Xor [(.agg v45), (.agg v46)] [.agg] fun r47 =>
 C.call n_spec_l01Compare [(.agg r40), (.agg r47)] [(.int .i64)] fun r48 =>
 cond (decide (r48 < 0)) (
 jt []
 ) (
 ct3 [(.slice y28.a y28.n y28.c), (.int .i64 (IntKind.wrap .i64 (s3.2 + 1)))]
 ))]),
 (C.ld .agg 32 (Addr.mk b3 0 none) fun v46 =>
 C.ld .agg 32 (Addr.mk b3 0 none) fun v39 =>
 C.call n_spec_l01Xor [(.agg v38), (.agg v39)] [.agg] fun r40 =>
 C.call n_spec_l01Xor [(.agg v45), (.agg v46)] [.agg] fun r47 =>
 C.call n_spec_l01Compare [(.agg r40), (.agg r47)] [(.int .i64)] fun r48 =>
 cond (decide (r48 < 0)) (
 jt []
 ) (
 ct3 [(.slice y28.a y28.n y28.c), (.int .i64 (IntKind.wrap .i64 (s3.2 + 1)))]
 ))]),
 (C.ld .agg 32 (Addr.mk b3 0 none) fun v46 =>
 C.all [
 (C.ld .agg 32 (Addr.mk b3 0 none) fun v39 =>
 C.all [
 (C.call n_spec_l01Xor [(.agg v38), (.agg v39)] [.agg] fun r40 =>
 C.ld .agg 32 p44 fun v45 =>
 C.call n_spec_l01Xor [(.agg v45), (.agg v46)] [.agg] fun r47 =>
 C.call n_spec_l01Compare [(.agg r40), (.agg r47)] [(.int .i64)] fun r48 =>
 cond (decide (r48 < 0)) (
 jt []
 ) (
 ct3 [(.slice y28.a y28.n y28.c), (.int .i64 (IntKind.wrap .i64 (s3.2 + 1)))]
 )),
 (C.ld .agg 32 p44 fun v45 =>
 C.call n_spec_l01Xor [(.agg v38), (.agg v39)] [.agg] fun r40 =>
 C.call n_spec_l01Xor [(.agg v45), (.agg v46)] [.agg] fun r47 =>
 C.call n_spec_l01Compare [(.agg r40), (.agg r47)] [(.int .i64)] fun r48 =>
 cond (decide (r48 < 0)) (
 jt []
 ) (
 ct3 [(.slice y28.a y28.n y28.c), (.int .i64 (IntKind.wrap .i64 (s3.2 + 1)))]
 ))]),
 (C.ld .agg 32 p44 fun v45 =>
 C.ld .agg 32 (Addr.mk b3 0 none) fun v39 =>
 C.call n_spec_l01Xor [(.agg v38), (.agg v39)] [.agg] fun r40 =>
 C.call n_spec_l01Xor [(.agg v45), (.agg v46)] [.agg] fun r47 =>
 C.call n_spec_l01Compare [(.agg r40), (.agg r47)] [(.int .i64)] fun r48 =>
 cond (decide (r48 < 0)) (
 jt []
 ) (
 ct3 [(.slice y28.a y28.n y28.c), (.int .i64 (IntKind.wrap .i64 (s3.2 + 1)))]
 ))])]),
 (C.ld .agg 32 (Addr.mk b3 0 none) fun v39 =>
 C.all [
 (C.ld .agg 32 p37 fun v38 =>
 C.all [
 (C.call n_spec_l01Xor [(.agg v38), (.agg v39)] [.agg] fun r40 =>
 C.all [
 (C.ld .agg 32 p44 fun v45 =>
 C.ld .agg 32 (Addr.mk b3 0 none) fun v46 =>
 C.call n_spec_l01Xor [(.agg v45), (.agg v46)] [.agg] fun r47 =>
 C.call n_spec_l01Compare [(.agg r40), (.agg r47)] [(.int .i64)] fun r48 =>
 cond (decide (r48 < 0)) (
 jt []
 ) (
 ct3 [(.slice y28.a y28.n y28.c), (.int .i64 (IntKind.wrap .i64 (s3.2 + 1)))]
 )),
 (C.ld .agg 32 (Addr.mk b3 0 none) fun v46 =>
 C.ld .agg 32 p44 fun v45 =>
 C.call n_spec_l01Xor [(.agg v45), (.agg v46)] [.agg] fun r47 =>
 C.call n_spec_l01Compare [(.agg r40), (.agg r47)] [(.int .i64)] fun r48 =>
 cond (decide (r48 < 0)) (
 jt []
 ) (
 ct3 [(.slice y28.a y28.n y28.c), (.int .i64 (IntKind.wrap .i64 (s3.2 + 1)))]
 ))]),
 (C.ld .agg 32 p44 fun v45 =>
 C.all [
 (C.call n_spec_l01Xor [(.agg v38), (.agg v39)] [.agg] fun r40 =>
 C.ld .agg 32 (Addr.mk b3 0 none) fun v46 =>
 C.call n_spec_l01Xor [(.agg v45), (.agg v46)] [.agg] fun r47 =>
 C.call n_spec_l01Compare [(.agg r40), (.agg r47)] [(.int .i64)] fun r48 =>
 cond (decide (r48 < 0)) (
 jt []
 ) (
 ct3 [(.slice y28.a y28.n y28.c), (.int .i64 (IntKind.wrap .i64 (s3.2 + 1)))]
 )),
 (C.ld .agg 32 (Addr.mk b3 0 none) fun v46 =>
 C.call n_spec_l01Xor [(.agg v38), (.agg v39)] [.agg] fun r40 =>
 C.call n_spec_l01Xor [(.agg v45), (.agg v46)] [.agg] fun r47 =>
 C.call n_spec_l01Compare [(.agg r40), (.agg r47)] [(.int .i64)] fun r48 =>
 cond (decide (r48 < 0)) (
 jt []
 ) (
 ct3 [(.slice y28.a y28.n y28.c), (.int .i64 (IntKind.wrap .i64 (s3.2 + 1)))]
 ))]),
 (C.ld .agg 32 (Addr.mk b3 0 none) fun v46 =>
 C.all [
 (C.call n_spec_l01Xor [(.agg v38), (.agg v39)] [.agg] fun r40 =>
 C.ld .agg 32 p44 fun v45 =>
 C.call n_spec_l01Xor [(.agg v45), (.agg v46)] [.agg] fun r47 =>
 C.call n_spec_l01Compare [(.agg r40), (.agg r47)] [(.int .i64)] fun r48 =>
 cond (decide (r48 < 0)) (
 jt []
 ) (
 ct3 [(.slice y28.a y28.n y28.c), (.int .i64 (IntKind.wrap .i64 (s3.2 + 1)))]
 )),
 (C.ld .agg 32 p44 fun v45 =>
 C.call n_spec_l01Xor [(.agg v38), (.agg v39)] [.agg] fun r40 =>
 C.call n_spec_l01Xor [(.agg v45), (.agg v46)] [.agg] fun r47 =>
 C.call n_spec_l01Compare [(.agg r40), (.agg r47)] [(.int .i64)] fun r48 =>
 cond (decide (r48 < 0)) (
 jt []
 ) (
 ct3 [(.slice y28.a y28.n y28.c), (.int .i64 (IntKind.wrap .i64 (s3.2 + 1)))]
 ))])]),
 (C.ld .agg 32 p44 fun v45 =>
 C.all [
 (C.ld .agg 32 p37 fun v38 =>
 C.all [
 (C.call n_spec_l01Xor [(.agg v38), (.agg v39)] [.agg] fun r40 =>
 C.ld .agg 32 (Addr.mk b3 0 none) fun v46 =>
 C.call n_spec_l01Xor [(.agg v45), (.agg v46)] [.agg] fun r47 =>
 C.call n_spec_l01Compare [(.agg r40), (.agg r47)] [(.int .i64)] fun r48 =>
 cond (decide (r48 < 0)) (
 jt []
 ) (
 ct3 [(.slice y28.a y28.n y28.c), (.int .i64 (IntKind.wrap .i64 (s3.2 + 1)))]
 )),
 (C.ld .agg 32 (Addr.mk b3 0 none) fun v46 =>
 C.call n_spec_l01Xor [(.agg v38), (.agg v39)] [.agg] fun r40 =>
 C.call n_spec_l01Xor [(.agg v45), (.agg v46)] [.agg] fun r47 =>
 C.call n_spec_l01Compare [(.agg r40), (.agg r47)] [(.int .i64)] fun r48 =>
 cond (decide (r48 < 0)) (
 jt []
 ) (
 ct3 [(.slice y28.a y28.n y28.c), (.int .i64 (IntKind.wrap .i64 (s3.2 + 1)))]
 ))]),
 (C.ld .agg 32 (Addr.mk b3 0 none) fun v46 =>
 C.ld .agg 32 p37 fun v38 =>
 C.call n_spec_l01Xor [(.agg v38), (.agg v39)] [.agg] fun r40 =>
 C.call n_spec_l01Xor [(.agg v45), (.agg v46)] [.agg] fun r47 =>
 C.call n_spec_l01Compare [(.agg r40), (.agg r47)] [(.int .i64)] fun r48 =>
 cond (decide (r48 < 0)) (
 jt []
 ) (
 ct3 [(.slice y28.a y28.n y28.c), (.int .i64 (IntKind.wrap .i64 (s3.2 + 1)))]
 ))]),
 (C.ld .agg 32 (Addr.mk b3 0 none) fun v46 =>
 C.all [
 (C.ld .agg 32 p37 fun v38 =>
 C.all [
 (C.call n_spec_l01Xor [(.agg v38), (.agg v39)] [.agg] fun r40 =>
 C.ld .agg 32 p44 fun v45 =>
 C.call n_spec_l01Xor [(.agg v45), (.agg v46)] [.agg] fun r47 =>
 C.call n_spec_l01Compare [(.agg r40), (.agg r47)] [(.int .i64)] fun r48 =>
 cond (decide (r48 < 0)) (
 jt []
 ) (
 ct3 [(.slice y28.a y28.n y28.c), (.int .i64 (IntKind.wrap .i64 (s3.2 + 1)))]
 )),
 (C.ld .agg 32 p44 fun v45 =>
 C.call n_spec_l01Xor [(.agg v38), (.agg v39)] [.agg] fun r40 =>
 C.call n_spec_l01Xor [(.agg v45), (.agg v46)] [.agg] fun r47 =>
 C.call n_spec_l01Compare [(.agg r40), (.agg r47)] [(.int .i64)] fun r48 =>
 cond (decide (r48 < 0)) (
 jt []
 ) (
 ct3 [(.slice y28.a y28.n y28.c), (.int .i64 (IntKind.wrap .i64 (s3.2 + 1)))]
 ))]),
 (C.ld .agg 32 p44 fun v45 =>
 C.ld .agg 32 p37 fun v38 =>
 C.call n_spec_l01Xor [(.agg v38), (.agg v39)] [.agg] fun r40 =>
 C.call n_spec_l01Xor [(.agg v45), (.agg v46)] [.agg] fun r47 =>
 C.call n_spec_l01Compare [(.agg r40), (.agg r47)] [(.int .i64)] fun r48 =>
 cond (decide (r48 < 0)) (
 jt []
 ) (
 ct3 [(.slice y28.a y28.n y28.c), (.int .i64 (IntKind.wrap .i64 (s3.2 + 1)))]
 ))])]),
 (C.ld .agg 32 p44 fun v45 =>
 C.all [
 (C.ld .agg 32 p37 fun v38 =>
 C.all [
 (C.ld .agg 32 (Addr.mk b3 0 none) fun v39 =>
 C.all [
 (C.call n_spec_l01Xor [(.agg v38), (.agg v39)] [.agg] fun r40 =>
 C.ld .agg 32 (Addr.mk b3 0 none) fun v46 =>
 C.call n_spec_l01Xor [(.agg v45), (.agg v46)] [.agg] fun r47 =>
 C.call n_spec_l01Compare [(.agg r40), (.agg r47)] [(.int .i64)] fun r48 =>
 cond (decide (r48 < 0)) (
 jt []
 ) (
 ct3 [(.slice y28.a y28.n y28.c), (.int .i64 (IntKind.wrap .i64 (s3.2 + 1)))]
 )),
 (C.ld .agg 32 (Addr.mk b3 0 none) fun v46 =>
 C.call n_spec_l01Xor [(.agg v38), (.agg v39)] [.agg] fun r40 =>
 C.call n_spec_l01Xor [(.agg v45), (.agg v46)] [.agg] fun r47 =>
 C.call n_spec_l01Compare [(.agg r40), (.agg r47)] [(.int .i64)] fun r48 =>
 cond (decide (r48 < 0)) (
 jt []
 ) (
 ct3 [(.slice y28.a y28.n y28.c), (.int .i64 (IntKind.wrap .i64 (s3.2 + 1)))]
 ))]),
 (C.ld .agg 32 (Addr.mk b3 0 none) fun v46 =>
 C.ld .agg 32 (Addr.mk b3 0 none) fun v39 =>
 C.call n_spec_l01Xor [(.agg v38), (.agg v39)] [.agg] fun r40 =>
 C.call n_spec_l01Xor [(.agg v45), (.agg v46)] [.agg] fun r47 =>
 C.call n_spec_l01Compare [(.agg r40), (.agg r47)] [(.int .i64)] fun r48 =>
 cond (decide (r48 < 0)) (
 jt []
 ) (
 ct3 [(.slice y28.a y28.n y28.c), (.int .i64 (IntKind.wrap .i64 (s3.2 + 1)))]
 ))]),
 (C.ld .agg 32 (Addr.mk b3 0 none) fun v39 =>
 C.all [
 (C.ld .agg 32 p37 fun v38 =>
 C.all [
 (C.call n_spec_l01Xor [(.agg v38), (.agg v39)] [.agg] fun r40 =>
 C.ld .agg 32 (Addr.mk b3 0 none) fun v46 =>
 C.call n_spec_l01Xor [(.agg v45), (.agg v46)] [.agg] fun r47 =>
 C.call n_spec_l01Compare [(.agg r40), (.agg r47)] [(.int .i64)] fun r48 =>
 cond (decide (r48 < 0)) (
 jt []
 ) (
 ct3 [(.slice y28.a y28.n y28.c), (.int .i64 (IntKind.wrap .i64 (s3.2 + 1)))]
 )),
 (C.ld .agg 32 (Addr.mk b3 0 none) fun v46 =>
 C.call n_spec_l01Xor [(.agg v38), (.agg v39)] [.agg] fun r40 =>
 C.call n_spec_l01Xor [(.agg v45), (.agg v46)] [.agg] fun r47 =>
 C.call n_spec_l01Compare [(.agg r40), (.agg r47)] [(.int .i64)] fun r48 =>
 cond (decide (r48 < 0)) (
 jt []
 ) (
 ct3 [(.slice y28.a y28.n y28.c), (.int .i64 (IntKind.wrap .i64 (s3.2 + 1)))]
 ))]),
 (C.ld .agg 32 (Addr.mk b3 0 none) fun v46 =>
 C.ld .agg 32 p37 fun v38 =>
 C.call n_spec_l01Xor [(.agg v38), (.agg v39)] [.agg] fun r40 =>
 C.call n_spec_l01Xor [(.agg v45), (.agg v46)] [.agg] fun r47 =>
 C.call n_spec_l01Compare [(.agg r40), (.agg r47)] [(.int .i64)] fun r48 =>
 cond (decide (r48 < 0)) (
 jt []
 ) (
 ct3 [(.slice y28.a y28.n y28.c), (.int .i64 (IntKind.wrap .i64 (s3.2 + 1)))]
 ))]),
 (C.ld .agg 32 (Addr.mk b3 0 none) fun v46 =>
 C.all [
 (C.ld .agg 32 p37 fun v38 =>
 C.ld .agg 32 (Addr.mk b3 0 none) fun v39 =>
 C.call n_spec_l01Xor [(.agg v38), (.agg v39)] [.agg] fun r40 =>
 C.call n_spec_l01Xor [(.agg v45), (.agg v46)] [.agg] fun r47 =>
 C.call n_spec_l01Compare [(.agg r40), (.agg r47)] [(.int .i64)] fun r48 =>
 cond (decide (r48 < 0)) (
 jt []
 ) (
 ct3 [(.slice y28.a y28.n y28.c), (.int .i64 (IntKind.wrap .i64 (s3.2 + 1)))]
 )),
 (C.ld .agg 32 (Addr.mk b3 0 none) fun v39 =>
 C.ld .agg 32 p37 fun v38 =>
 C.call n_spec_l01Xor [(.agg v38), (.agg v39)] [.agg] fun r40 =>
 C.call n_spec_l01Xor [(.agg v45), (.agg v46)] [.agg] fun r47 =>
 C.call n_spec_l01Compare [(.agg r40), (.agg r47)] [(.int .i64)] fun r48 =>
 cond (decide (r48 < 0)) (
 jt []
 ) (
 ct3 [(.slice y28.a y28.n y28.c), (.int .i64 (IntKind.wrap .i64 (s3.2 + 1)))]
 ))])]),
 (C.ld .agg 32 (Addr.mk b3 0 none) fun v46 =>
 C.all [
 (C.ld .agg 32 p37 fun v38 =>
 C.all [
 (C.ld .agg 32 (Addr.mk b3 0 none) fun v39 =>
 C.all [
 (C.call n_spec_l01Xor [(.agg v38), (.agg v39)] [.agg] fun r40 =>
 C.ld .agg 32 p44 fun v45 =>
 C.call n_spec_l01Xor [(.agg v45), (.agg v46)] [.agg] fun r47 =>
 C.call n_spec_l01Compare [(.agg r40), (.agg r47)] [(.int .i64)] fun r48 =>
 cond (decide (r48 < 0)) (
 jt []
 ) (
 ct3 [(.slice y28.a y28.n y28.c), (.int .i64 (IntKind.wrap .i64 (s3.2 + 1)))]
 )),
 (C.ld .agg 32 p44 fun v45 =>
 C.call n_spec_l01Xor [(.agg v38), (.agg v39)] [.agg] fun r40 =>
 C.call n_spec_l01Xor [(.agg v45), (.agg v46)] [.agg] fun r47 =>
 C.call n_spec_l01Compare [(.agg r40), (.agg r47)] [(.int .i64)] fun r48 =>
 cond (decide (r48 < 0)) (
 jt []
 ) (
 ct3 [(.slice y28.a y28.n y28.c), (.int .i64 (IntKind.wrap .i64 (s3.2 + 1)))]
 ))]),
 (C.ld .agg 32 p44 fun v45 =>
 C.ld .agg 32 (Addr.mk b3 0 none) fun v39 =>
 C.call n_spec_l01Xor [(.agg v38), (.agg v39)] [.agg] fun r40 =>
 C.call n_spec_l01Xor [(.agg v45), (.agg v46)] [.agg] fun r47 =>
 C.call n_spec_l01Compare [(.agg r40), (.agg r47)] [(.int .i64)] fun r48 =>
 cond (decide (r48 < 0)) (
 jt []
 ) (
 ct3 [(.slice y28.a y28.n y28.c), (.int .i64 (IntKind.wrap .i64 (s3.2 + 1)))]
 ))]),
 (C.ld .agg 32 (Addr.mk b3 0 none) fun v39 =>
 C.all [
 (C.ld .agg 32 p37 fun v38 =>
 C.all [
 (C.call n_spec_l01Xor [(.agg v38), (.agg v39)] [.agg] fun r40 =>
 C.ld .agg 32 p44 fun v45 =>
 C.call n_spec_l01Xor [(.agg v45), (.agg v46)] [.agg] fun r47 =>
 C.call n_spec_l01Compare [(.agg r40), (.agg r47)] [(.int .i64)] fun r48 =>
 cond (decide (r48 < 0)) (
 jt []
 ) (
 ct3 [(.slice y28.a y28.n y28.c), (.int .i64 (IntKind.wrap .i64 (s3.2 + 1)))]
 )),
 (C.ld .agg 32 p44 fun v45 =>
 C.call n_spec_l01Xor [(.agg v38), (.agg v39)] [.agg] fun r40 =>
 C.call n_spec_l01Xor [(.agg v45), (.agg v46)] [.agg] fun r47 =>
 C.call n_spec_l01Compare [(.agg r40), (.agg r47)] [(.int .i64)] fun r48 =>
 cond (decide (r48 < 0)) (
 jt []
 ) (
 ct3 [(.slice y28.a y28.n y28.c), (.int .i64 (IntKind.wrap .i64 (s3.2 + 1)))]
 ))]),
 (C.ld .agg 32 p44 fun v45 =>
 C.ld .agg 32 p37 fun v38 =>
 C.call n_spec_l01Xor [(.agg v38), (.agg v39)] [.agg] fun r40 =>
 C.call n_spec_l01Xor [(.agg v45), (.agg v46)] [.agg] fun r47 =>
 C.call n_spec_l01Compare [(.agg r40), (.agg r47)] [(.int .i64)] fun r48 =>
 cond (decide (r48 < 0)) (
 jt []
 ) (
 ct3 [(.slice y28.a y28.n y28.c), (.int .i64 (IntKind.wrap .i64 (s3.2 + 1)))]
 ))]),
 (C.ld .agg 32 p44 fun v45 =>
 C.all [
 (C.ld .agg 32 p37 fun v38 =>
 C.ld .agg 32 (Addr.mk b3 0 none) fun v39 =>
 C.call n_spec_l01Xor [(.agg v38), (.agg v39)] [.agg] fun r40 =>
 C.call n_spec_l01Xor [(.agg v45), (.agg v46)] [.agg] fun r47 =>
 C.call n_spec_l01Compare [(.agg r40), (.agg r47)] [(.int .i64)] fun r48 =>
 cond (decide (r48 < 0)) (
 jt []
 ) (
 ct3 [(.slice y28.a y28.n y28.c), (.int .i64 (IntKind.wrap .i64 (s3.2 + 1)))]
 )),
 (C.ld .agg 32 (Addr.mk b3 0 none) fun v39 =>
 C.ld .agg 32 p37 fun v38 =>
 C.call n_spec_l01Xor [(.agg v38), (.agg v39)] [.agg] fun r40 =>
 C.call n_spec_l01Xor [(.agg v45), (.agg v46)] [.agg] fun r47 =>
 C.call n_spec_l01Compare [(.agg r40), (.agg r47)] [(.int .i64)] fun r48 =>
 cond (decide (r48 < 0)) (
 jt []
 ) (
 ct3 [(.slice y28.a y28.n y28.c), (.int .i64 (IntKind.wrap .i64 (s3.2 + 1)))]
 ))])])]
 ) (
 C.all [
 (C.all [
 (C.all [
 (C.all [
 (ct3 [(.slice y28.a y28.n y28.c), (.int .i64 (IntKind.wrap .i64 (s3.2 + 1)))]),
 (ct3 [(.slice y28.a y28.n y28.c), (.int .i64 (IntKind.wrap .i64 (s3.2 + 1)))])]),
 (C.all [
 (ct3 [(.slice y28.a y28.n y28.c), (.int .i64 (IntKind.wrap .i64 (s3.2 + 1)))]),
 (ct3 [(.slice y28.a y28.n y28.c), (.int .i64 (IntKind.wrap .i64 (s3.2 + 1)))])]),
 (C.all [
 (ct3 [(.slice y28.a y28.n y28.c), (.int .i64 (IntKind.wrap .i64 (s3.2 + 1)))]),
 (ct3 [(.slice y28.a y28.n y28.c), (.int .i64 (IntKind.wrap .i64 (s3.2 + 1)))])])]),
 (C.all [
 (C.all [
 (ct3 [(.slice y28.a y28.n y28.c), (.int .i64 (IntKind.wrap .i64 (s3.2 + 1)))]),
 (ct3 [(.slice y28.a y28.n y28.c), (.int .i64 (IntKind.wrap .i64 (s3.2 + 1)))])]),
 (ct3 [(.slice y28.a y28.n y28.c), (.int .i64 (IntKind.wrap .i64 (s3.2 + 1)))])]),
 (C.all [
 (C.all [
 (ct3 [(.slice y28.a y28.n y28.c), (.int .i64 (IntKind.wrap .i64 (s3.2 + 1)))]),
 (ct3 [(.slice y28.a y28.n y28.c), (.int .i64 (IntKind.wrap .i64 (s3.2 + 1)))])]),
 (ct3 [(.slice y28.a y28.n y28.c), (.int .i64 (IntKind.wrap .i64 (s3.2 + 1)))])])]),
 (C.all [
 (C.all [
 (C.all [
 (ct3 [(.slice y28.a y28.n y28.c), (.int .i64 (IntKind.wrap .i64 (s3.2 + 1)))]),
 (ct3 [(.slice y28.a y28.n y28.c), (.int .i64 (IntKind.wrap .i64 (s3.2 + 1)))])]),
 (C.all [
 (ct3 [(.slice y28.a y28.n y28.c), (.int .i64 (IntKind.wrap .i64 (s3.2 + 1)))]),
 (ct3 [(.slice y28.a y28.n y28.c), (.int .i64 (IntKind.wrap .i64 (s3.2 + 1)))])]),
 (C.all [
 (ct3 [(.slice y28.a y28.n y28.c), (.int .i64 (IntKind.wrap .i64 (s3.2 + 1)))]),
 (ct3 [(.slice y28.a y28.n y28.c), (.int .i64 (IntKind.wrap .i64 (s3.2 + 1)))])])]),
 (C.all [
 (C.all [
 (ct3 [(.slice y28.a y28.n y28.c), (.int .i64 (IntKind.wrap .i64 (s3.2 + 1)))]),
 (ct3 [(.slice y28.a y28.n y28.c), (.int .i64 (IntKind.wrap .i64 (s3.2 + 1)))])]),
 (ct3 [(.slice y28.a y28.n y28.c), (.int .i64 (IntKind.wrap .i64 (s3.2 + 1)))])]),
 (C.all [
 (C.all [
 (ct3 [(.slice y28.a y28.n y28.c), (.int .i64 (IntKind.wrap .i64 (s3.2 + 1)))]),
 (ct3 [(.slice y28.a y28.n y28.c), (.int .i64 (IntKind.wrap .i64 (s3.2 + 1)))])]),
 (ct3 [(.slice y28.a y28.n y28.c), (.int .i64 (IntKind.wrap .i64 (s3.2 + 1)))])])]),
 (C.all [
 (C.all [
 (C.all [
 (ct3 [(.slice y28.a y28.n y28.c), (.int .i64 (IntKind.wrap .i64 (s3.2 + 1)))]),
 (ct3 [(.slice y28.a y28.n y28.c), (.int .i64 (IntKind.wrap .i64 (s3.2 + 1)))])]),
 (ct3 [(.slice y28.a y28.n y28.c), (.int .i64 (IntKind.wrap .i64 (s3.2 + 1)))])]),
 (C.all [
 (C.all [
 (ct3 [(.slice y28.a y28.n y28.c), (.int .i64 (IntKind.wrap .i64 (s3.2 + 1)))]),
 (ct3 [(.slice y28.a y28.n y28.c), (.int .i64 (IntKind.wrap .i64 (s3.2 + 1)))])]),
 (ct3 [(.slice y28.a y28.n y28.c), (.int .i64 (IntKind.wrap .i64 (s3.2 + 1)))])]),
 (C.all [
 (ct3 [(.slice y28.a y28.n y28.c), (.int .i64 (IntKind.wrap .i64 (s3.2 + 1)))]),
 (ct3 [(.slice y28.a y28.n y28.c), (.int .i64 (IntKind.wrap .i64 (s3.2 + 1)))])])]),
 (C.all [
 (C.all [
 (C.all [
 (ct3 [(.slice y28.a y28.n y28.c), (.int .i64 (IntKind.wrap .i64 (s3.2 + 1)))]),
 (ct3 [(.slice y28.a y28.n y28.c), (.int .i64 (IntKind.wrap .i64 (s3.2 + 1)))])]),
 (ct3 [(.slice y28.a y28.n y28.c), (.int .i64 (IntKind.wrap .i64 (s3.2 + 1)))])]),
 (C.all [
 (C.all [
 (ct3 [(.slice y28.a y28.n y28.c), (.int .i64 (IntKind.wrap .i64 (s3.2 + 1)))]),
 (ct3 [(.slice y28.a y28.n y28.c), (.int .i64 (IntKind.wrap .i64 (s3.2 + 1)))])]),
 (ct3 [(.slice y28.a y28.n y28.c), (.int .i64 (IntKind.wrap .i64 (s3.2 + 1)))])]),
 (C.all [
 (ct3 [(.slice y28.a y28.n y28.c), (.int .i64 (IntKind.wrap .i64 (s3.2 + 1)))]),
 (ct3 [(.slice y28.a y28.n y28.c), (.int .i64 (IntKind.wrap .i64 (s3.2 + 1)))])])])]
 )
 )
 ) (
 C.ret (.slice s3.1.a s3.1.n s3.1.c)
 )
theorem spec_l01Sort_eq (C : Comb) (x0 : Sl) (x1 : Array Value) : fT C Tryz.prog ⟨[(3, [(5, .slice), (6, (.int .i64))]), (8, [(7, (.int .i64))])], [(150, [])], [8], []⟩ n_spec_l01Sort [(.slice x0.a x0.n x0.c), (.agg x1)] = spec_l01Sort C x0 x1 := by kernel_rfl
theorem spec_l01Sort_calls {R : Value → World → Prop} {w : World} (x0 : Sl) (x1 : Array Value) (h : (spec_l01Sort (real Tryz.prog R) x0 x1 : World → Prop) w) :
    Calls Tryz.prog n_spec_l01Sort [(.slice x0.a x0.n x0.c), (.agg x1)].toArray w fun e w' => ∃ v, e = .returned v ∧ R v w' := fT_sound mixed ⟨[(3, [(5, .slice), (6, (.int .i64))]), (8, [(7, (.int .i64))])], [(150, [])], [8], []⟩ (by rw [spec_l01Sort_eq]; exact h)

def spec_l07Find (C : Comb) (x0 : Sl) (x1 : Array Value) : C.St :=
 C.new ty_impl_Key (.agg x1) fun b3 =>
 C.loop (TL [(.int .i64)]) (embL [(.int .i64)]) [(.int .i64 0)] fun s2 ct2 => C.any fun _ =>
 cond (decide (s2 < (x0.n : Int))) (
 C.draw <|
 C.ix x0.a x0.n 32 s2 fun p14 =>
 C.ld .agg 32 p14 fun v15 =>
 C.ld .agg 32 (Addr.mk b3 0 none) fun v16 =>
 C.pur (eqB .eql ty_impl_Key (.tmp 15) (.tmp 16) (.agg v15) (.agg v16)) .bool fun y17 =>
 cond y17 (
 C.ret (.int .i64 s2)
 ) (
 ct2 [(.int .i64 (IntKind.wrap .i64 (s2 + 1)))]
 )
 ) (
 C.ret (.int .i64 (-1))
 )
theorem spec_l07Find_eq (C : Comb) (x0 : Sl) (x1 : Array Value) : fT C Tryz.prog ⟨[(2, [(5, (.int .i64))])], [], [], []⟩ n_spec_l07Find [(.slice x0.a x0.n x0.c), (.agg x1)] = spec_l07Find C x0 x1 := by kernel_rfl
theorem spec_l07Find_calls {R : Value → World → Prop} {w : World} (x0 : Sl) (x1 : Array Value) (h : (spec_l07Find (real Tryz.prog R) x0 x1 : World → Prop) w) :
    Calls Tryz.prog n_spec_l07Find [(.slice x0.a x0.n x0.c), (.agg x1)].toArray w fun e w' => ∃ v, e = .returned v ∧ R v w' := fT_sound mixed ⟨[(2, [(5, (.int .i64))])], [], [], []⟩ (by rw [spec_l07Find_eq]; exact h)

def laws_szEntry (C : Comb) (x0 : Array Value) (x1 : Int) : C.St :=
 C.new ty_laws_Entry (.agg x0) fun b2 =>
 C.ld .str 1 ((Addr.mk b2 0 none).add 0) fun v7 =>
 cond (decide ((IntKind.wrap .i64 (x1 - (v7.size : Int))) < 0)) (
 C.ret (.int .i64 (-1))
 ) (
 C.ld .str 1 ((Addr.mk b2 0 none).add 1) fun v14 =>
 cond (decide ((IntKind.wrap .i64 ((IntKind.wrap .i64 (x1 - (v7.size : Int))) - (v14.size : Int))) < 0)) (
 C.ret (.int .i64 (-1))
 ) (
 C.ret (.int .i64 (IntKind.wrap .i64 ((IntKind.wrap .i64 (x1 - (v7.size : Int))) - (v14.size : Int))))
 )
 )
theorem laws_szEntry_eq (C : Comb) (x0 : Array Value) (x1 : Int) : fT C Tryz.prog ⟨[], [], [], []⟩ n_laws_szEntry [(.agg x0), (.int .i64 x1)] = laws_szEntry C x0 x1 := by kernel_rfl
theorem laws_szEntry_calls {R : Value → World → Prop} {w : World} (x0 : Array Value) (x1 : Int) (h : (laws_szEntry (real Tryz.prog R) x0 x1 : World → Prop) w) :
    Calls Tryz.prog n_laws_szEntry [(.agg x0), (.int .i64 x1)].toArray w fun e w' => ∃ v, e = .returned v ∧ R v w' := fT_sound mixed ⟨[], [], [], []⟩ (by rw [laws_szEntry_eq]; exact h)

def laws_toEntry (C : Comb) (x0 : Array Value) : C.St :=
 C.new ty_laws_Entry (.agg x0) fun b1 =>
 C.new ty_impl_Entry (.agg (#[(.string (⟨#[]⟩ : ByteArray)), (.string (⟨#[]⟩ : ByteArray))])) fun b2 =>
 C.new ty_impl_Entry (.agg (#[(.string (⟨#[]⟩ : ByteArray)), (.string (⟨#[]⟩ : ByteArray))])) fun b3 =>
 C.ld .str 1 ((Addr.mk b1 0 none).add 0) fun v5 =>
 C.st 1 ((Addr.mk b3 0 none).add 0) (.string v5) <|
 C.ld .str 1 ((Addr.mk b1 0 none).add 1) fun v8 =>
 C.st 1 ((Addr.mk b3 0 none).add 1) (.string v8) <|
 C.ld .agg 2 (Addr.mk b3 0 none) fun v10 =>
 C.st 2 (Addr.mk b2 0 none) (.agg v10) <|
 C.ld .agg 2 (Addr.mk b2 0 none) fun z7 =>
 C.ret (.agg z7)
theorem laws_toEntry_eq (C : Comb) (x0 : Array Value) : fT C Tryz.prog ⟨[], [], [], []⟩ n_laws_toEntry [(.agg x0)] = laws_toEntry C x0 := by kernel_rfl
theorem laws_toEntry_calls {R : Value → World → Prop} {w : World} (x0 : Array Value) (h : (laws_toEntry (real Tryz.prog R) x0 : World → Prop) w) :
    Calls Tryz.prog n_laws_toEntry [(.agg x0)].toArray w fun e w' => ∃ v, e = .returned v ∧ R v w' := fT_sound mixed ⟨[], [], [], []⟩ (by rw [laws_toEntry_eq]; exact h)

def laws_eqEntry (C : Comb) (x0 : Array Value) (x1 : Array Value) : C.St :=
 C.new ty_impl_Entry (.agg x0) fun b2 =>
 C.new ty_impl_Entry (.agg x1) fun b3 =>
 C.ld .str 1 ((Addr.mk b2 0 none).add 0) fun v6 =>
 C.ld .str 1 ((Addr.mk b3 0 none).add 0) fun v8 =>
 C.pur (eqB .neq ty_string (.tmp 6) (.tmp 8) (.string v6) (.string v8)) .bool fun y9 =>
 cond y9 (
 C.ret (.bool false)
 ) (
 C.ld .str 1 ((Addr.mk b2 0 none).add 1) fun v11 =>
 C.ld .str 1 ((Addr.mk b3 0 none).add 1) fun v13 =>
 C.pur (eqB .neq ty_string (.tmp 11) (.tmp 13) (.string v11) (.string v13)) .bool fun y14 =>
 cond y14 (
 C.ret (.bool false)
 ) (
 C.ret (.bool true)
 )
 )
theorem laws_eqEntry_eq (C : Comb) (x0 : Array Value) (x1 : Array Value) : fT C Tryz.prog ⟨[], [], [], []⟩ n_laws_eqEntry [(.agg x0), (.agg x1)] = laws_eqEntry C x0 x1 := by kernel_rfl
theorem laws_eqEntry_calls {R : Value → World → Prop} {w : World} (x0 : Array Value) (x1 : Array Value) (h : (laws_eqEntry (real Tryz.prog R) x0 x1 : World → Prop) w) :
    Calls Tryz.prog n_laws_eqEntry [(.agg x0), (.agg x1)].toArray w fun e w' => ∃ v, e = .returned v ∧ R v w' := fT_sound mixed ⟨[], [], [], []⟩ (by rw [laws_eqEntry_eq]; exact h)

def laws_heldCommitS (C : Comb) (x0 : Sl) (x1 : Int) : C.St :=
 C.loop (TL [(.int .i64), (.int .i64)]) (embL [(.int .i64), (.int .i64)]) [(.int .i64 x1), (.int .i64 0)] fun s1 ct1 => C.any fun _ =>
 cond (decide (s1.2 < (x0.n : Int))) (
 C.loop (TL [(.int .i64), (.int .i64)]) (embL [(.int .i64), (.int .i64)]) [(.int .i64 s1.1), (.int .i64 0)] fun s2 ct2 => C.any fun _ =>
 cond (decide (s2.2 < 32)) (
 C.ix x0.a x0.n 35 s1.2 fun p20 =>
 C.ix (some (p20.add 0)) 32 1 s2.2 fun p22 =>
 C.ld (.int .u8) 1 p22 fun v23 =>
 cond (v23 != (IntKind.wrap .u8 (s2.1))) (
 C.ret (.int .i64 (-1))
 ) (
 ct2 [(.int .i64 (IntKind.wrap .i64 (s2.1 + 1))), (.int .i64 (IntKind.wrap .i64 (s2.2 + 1)))]
 )
 ) (
 C.ix x0.a x0.n 35 s1.2 fun p31 =>
 C.ld .slice 1 (p31.add 32) fun v33 =>
 C.call n_laws_heldKeyS [(.slice v33.a v33.n v33.c), (.int .i64 s2.1)] [(.int .i64)] fun r35 =>
 cond (decide (r35 < 0)) (
 C.ret (.int .i64 (-1))
 ) (
 C.ix x0.a x0.n 35 s1.2 fun p40 =>
 C.ld (.int .i64) 1 (p40.add 33) fun v42 =>
 cond (v42 != r35) (
 C.ret (.int .i64 (-1))
 ) (
 C.draw <|
 C.ix x0.a x0.n 35 s1.2 fun p49 =>
 C.ld .str 1 (p49.add 34) fun v51 =>
 C.call n_laws_markText [(.int .i64 (IntKind.wrap .i64 (r35 + 1)))] [.str] fun r53 =>
 C.chk [⟨4, 1, (p49.add 34), .str, v51⟩] <|
 C.pur (eqB .neq ty_string (.tmp 51) (.tmp 53) (.string v51) (.string r53)) .bool fun y54 =>
 cond y54 (
 C.ret (.int .i64 (-1))
 ) (
 ct1 [(.int .i64 (IntKind.wrap .i64 ((IntKind.wrap .i64 (r35 + 1)) + 1))), (.int .i64 (IntKind.wrap .i64 (s1.2 + 1)))]
 )
 )
 )
 )
 ) (
 C.ret (.int .i64 s1.1)
 )
theorem laws_heldCommitS_eq (C : Comb) (x0 : Sl) (x1 : Int) : fT C Tryz.prog ⟨[(2, [(1, (.int .i64)), (5, (.int .i64))]), (5, [(1, (.int .i64)), (6, (.int .i64))])], [], [16], []⟩ n_laws_heldCommitS [(.slice x0.a x0.n x0.c), (.int .i64 x1)] = laws_heldCommitS C x0 x1 := by kernel_rfl
theorem laws_heldCommitS_calls {R : Value → World → Prop} {w : World} (x0 : Sl) (x1 : Int) (h : (laws_heldCommitS (real Tryz.prog R) x0 x1 : World → Prop) w) :
    Calls Tryz.prog n_laws_heldCommitS [(.slice x0.a x0.n x0.c), (.int .i64 x1)].toArray w fun e w' => ∃ v, e = .returned v ∧ R v w' := fT_sound mixed ⟨[(2, [(1, (.int .i64)), (5, (.int .i64))]), (5, [(1, (.int .i64)), (6, (.int .i64))])], [], [16], []⟩ (by rw [laws_heldCommitS_eq]; exact h)

def laws_heldEntrySS (C : Comb) (x0 : Sl) (x1 : Int) : C.St :=
 C.loop (TL [(.int .i64), (.int .i64)]) (embL [(.int .i64), (.int .i64)]) [(.int .i64 x1), (.int .i64 0)] fun s1 ct1 => C.any fun _ =>
 cond (decide (s1.2 < (x0.n : Int))) (
 C.ix x0.a x0.n 1 s1.2 fun p14 =>
 C.ld .slice 1 p14 fun v15 =>
 C.call n_laws_heldEntryS [(.slice v15.a v15.n v15.c), (.int .i64 s1.1)] [(.int .i64)] fun r17 =>
 cond (decide (r17 < 0)) (
 C.ret (.int .i64 (-1))
 ) (
 ct1 [(.int .i64 r17), (.int .i64 (IntKind.wrap .i64 (s1.2 + 1)))]
 )
 ) (
 C.ret (.int .i64 s1.1)
 )
theorem laws_heldEntrySS_eq (C : Comb) (x0 : Sl) (x1 : Int) : fT C Tryz.prog ⟨[(2, [(1, (.int .i64)), (5, (.int .i64))])], [], [], []⟩ n_laws_heldEntrySS [(.slice x0.a x0.n x0.c), (.int .i64 x1)] = laws_heldEntrySS C x0 x1 := by kernel_rfl
theorem laws_heldEntrySS_calls {R : Value → World → Prop} {w : World} (x0 : Sl) (x1 : Int) (h : (laws_heldEntrySS (real Tryz.prog R) x0 x1 : World → Prop) w) :
    Calls Tryz.prog n_laws_heldEntrySS [(.slice x0.a x0.n x0.c), (.int .i64 x1)].toArray w fun e w' => ∃ v, e = .returned v ∧ R v w' := fT_sound mixed ⟨[(2, [(1, (.int .i64)), (5, (.int .i64))])], [], [], []⟩ (by rw [laws_heldEntrySS_eq]; exact h)

def spec_l07Has (C : Comb) (x0 : Sl) (x1 : ByteArray) : C.St :=
 C.new ty_impl_Change (.agg (#[(.string (⟨#[]⟩ : ByteArray)), (.bool false), (.string (⟨#[]⟩ : ByteArray)), (.bool false), (.string (⟨#[]⟩ : ByteArray))])) fun b4 =>
 C.loop (TL [(.int .i64)]) (embL [(.int .i64)]) [(.int .i64 0)] fun s2 ct2 => C.any fun _ =>
 cond (decide (s2 < (x0.n : Int))) (
 C.ix x0.a x0.n 2 s2 fun p14 =>
 C.ld .str 1 (p14.add 0) fun v16 =>
 C.pur (eqB .eql ty_string (.tmp 16) (.tmp 17) (.string v16) (.string x1)) .bool fun y18 =>
 cond y18 (
 C.ix x0.a x0.n 2 s2 fun p22 =>
 C.ld .str 1 (p22.add 1) fun v24 =>
 C.pur (Instr.build ty_impl_Change #[(0, (.string x1)), (3, (.bool true)), (4, (.string v24))]) .agg fun y25 =>
 C.st 5 (Addr.mk b4 0 none) (.agg y25) <|
 C.ld .agg 5 (Addr.mk b4 0 none) fun z9 =>
 C.ret (.agg z9)
 ) (
 ct2 [(.int .i64 (IntKind.wrap .i64 (s2 + 1)))]
 )
 ) (
 C.pur (Instr.build ty_impl_Change #[(0, (.string x1))]) .agg fun y27 =>
 C.st 5 (Addr.mk b4 0 none) (.agg y27) <|
 C.ld .agg 5 (Addr.mk b4 0 none) fun z11 =>
 C.ret (.agg z11)
 )
theorem spec_l07Has_eq (C : Comb) (x0 : Sl) (x1 : ByteArray) : fT C Tryz.prog ⟨[(2, [(5, (.int .i64))])], [], [], []⟩ n_spec_l07Has [(.slice x0.a x0.n x0.c), (.string x1)] = spec_l07Has C x0 x1 := by kernel_rfl
theorem spec_l07Has_calls {R : Value → World → Prop} {w : World} (x0 : Sl) (x1 : ByteArray) (h : (spec_l07Has (real Tryz.prog R) x0 x1 : World → Prop) w) :
    Calls Tryz.prog n_spec_l07Has [(.slice x0.a x0.n x0.c), (.string x1)].toArray w fun e w' => ∃ v, e = .returned v ∧ R v w' := fT_sound mixed ⟨[(2, [(5, (.int .i64))])], [], [], []⟩ (by rw [spec_l07Has_eq]; exact h)

def spec_l07Undone (C : Comb) (x0 : Sl) (x1 : Sl) : C.St :=
 C.sem (Instr.buildSlice ty_sl_impl_Entry 0 #[]) .slice fun y13 =>
 C.loop (TL [.slice, (.int .i64)]) (embL [.slice, (.int .i64)]) [(.slice y13.a y13.n y13.c), (.int .i64 0)] fun s2 ct2 => C.any fun _ =>
 cond (decide (s2.2 < (x0.n : Int))) (
 C.loop (TL [.bool, (.int .i64)]) (embL [.bool, (.int .i64)]) [(.bool true), (.int .i64 0)] fun s3 ct3 => C.any fun _ =>
 cond (decide (s3.2 < (x1.n : Int))) (
 C.draw <|
 cond s3.1 (
 C.ix x1.a x1.n 5 s3.2 fun p30 =>
 C.ld .str 1 (p30.add 0) fun v32 =>
 C.ix x0.a x0.n 2 s2.2 fun p35 =>
 C.ld .str 1 (p35.add 0) fun v37 =>
 C.pur (eqB .neq ty_string (.tmp 32) (.tmp 37) (.string v32) (.string v37)) .bool fun y38 =>
 ct3 [(.bool y38), (.int .i64 (IntKind.wrap .i64 (s3.2 + 1)))]
 ) (
 ct3 [(.bool false), (.int .i64 (IntKind.wrap .i64 (s3.2 + 1)))]
 )
 ) (
 cond s3.1 (
 C.ix x0.a x0.n 2 s2.2 fun p44 =>
 C.ld .agg 2 p44 fun v45 =>
 C.sem (Instr.buildSlice ty_sl_impl_Entry 1 #[(0, (.agg v45))]) .slice fun y46 =>
 C.sem (Builtin.append_ #[ty_sl_impl_Entry, ty_sl_impl_Entry] ty_sl_impl_Entry #[(.slice s2.1.a s2.1.n s2.1.c), (.slice y46.a y46.n y46.c)]) .slice fun y47 =>
 ct2 [(.slice y47.a y47.n y47.c), (.int .i64 (IntKind.wrap .i64 (s2.2 + 1)))]
 ) (
 ct2 [(.slice s2.1.a s2.1.n s2.1.c), (.int .i64 (IntKind.wrap .i64 (s2.2 + 1)))]
 )
 )
 ) (
 C.loop (TL [.slice, (.int .i64)]) (embL [.slice, (.int .i64)]) [(.slice s2.1.a s2.1.n s2.1.c), (.int .i64 0)] fun s13 ct13 => C.any fun _ =>
 cond (decide (s13.2 < (x1.n : Int))) (
 C.ix x1.a x1.n 5 s13.2 fun p56 =>
 C.ld .bool 1 (p56.add 3) fun v58 =>
 cond (!v58) (
 ct13 [(.slice s13.1.a s13.1.n s13.1.c), (.int .i64 (IntKind.wrap .i64 (s13.2 + 1)))]
 ) (
 C.join (TL [(.int .i64)]) (embL [(.int .i64)]) (fun s22 => C.any fun _ =>
 C.join (TL [.ptr]) (embL [.ptr]) (fun s29 => C.any fun _ =>
 C.draw <|
 C.sl s13.1.a s13.1.n s13.1.c 2 none (some s22) none fun y93 =>
 C.ld .agg 2 s29 fun v95 =>
 C.sl s13.1.a s13.1.n s13.1.c 2 (some s22) none none fun y100 =>
 C.all [
 (C.sem (Instr.buildSlice ty_sl_impl_Entry 0 #[]) .slice fun y90 =>
 C.chk [⟨5, 2, s29, .agg, v95⟩] <|
 C.all [
 (C.sem (Builtin.append_ #[ty_sl_impl_Entry, ty_sl_impl_Entry] ty_sl_impl_Entry #[(.slice y90.a y90.n y90.c), (.slice y93.a y93.n y93.c)]) .slice fun y94 =>
 C.chk [⟨5, 2, s29, .agg, v95⟩] <|
 C.sem (Instr.buildSlice ty_sl_impl_Entry 1 #[(0, (.agg v95))]) .slice fun y96 =>
 C.sem (Builtin.append_ #[ty_sl_impl_Entry, ty_sl_impl_Entry] ty_sl_impl_Entry #[(.slice y94.a y94.n y94.c), (.slice y96.a y96.n y96.c)]) .slice fun y97 =>
 C.sem (Builtin.append_ #[ty_sl_impl_Entry, ty_sl_impl_Entry] ty_sl_impl_Entry #[(.slice y97.a y97.n y97.c), (.slice y100.a y100.n y100.c)]) .slice fun y101 =>
 ct13 [(.slice y101.a y101.n y101.c), (.int .i64 (IntKind.wrap .i64 (s13.2 + 1)))]),
 (C.sem (Instr.buildSlice ty_sl_impl_Entry 1 #[(0, (.agg v95))]) .slice fun y96 =>
 C.sem (Builtin.append_ #[ty_sl_impl_Entry, ty_sl_impl_Entry] ty_sl_impl_Entry #[(.slice y90.a y90.n y90.c), (.slice y93.a y93.n y93.c)]) .slice fun y94 =>
 C.sem (Builtin.append_ #[ty_sl_impl_Entry, ty_sl_impl_Entry] ty_sl_impl_Entry #[(.slice y94.a y94.n y94.c), (.slice y96.a y96.n y96.c)]) .slice fun y97 =>
 C.sem (Builtin.append_ #[ty_sl_impl_Entry, ty_sl_impl_Entry] ty_sl_impl_Entry #[(.slice y97.a y97.n y97.c), (.slice y100.a y100.n y100.c)]) .slice fun y101 =>
 ct13 [(.slice y101.a y101.n y101.c), (.int .i64 (IntKind.wrap .i64 (s13.2 + 1)))])]),
 (C.sem (Instr.buildSlice ty_sl_impl_Entry 1 #[(0, (.agg v95))]) .slice fun y96 =>
 C.sem (Instr.buildSlice ty_sl_impl_Entry 0 #[]) .slice fun y90 =>
 C.sem (Builtin.append_ #[ty_sl_impl_Entry, ty_sl_impl_Entry] ty_sl_impl_Entry #[(.slice y90.a y90.n y90.c), (.slice y93.a y93.n y93.c)]) .slice fun y94 =>
 C.sem (Builtin.append_ #[ty_sl_impl_Entry, ty_sl_impl_Entry] ty_sl_impl_Entry #[(.slice y94.a y94.n y94.c), (.slice y96.a y96.n y96.c)]) .slice fun y97 =>
 C.sem (Builtin.append_ #[ty_sl_impl_Entry, ty_sl_impl_Entry] ty_sl_impl_Entry #[(.slice y97.a y97.n y97.c), (.slice y100.a y100.n y100.c)]) .slice fun y101 =>
 ct13 [(.slice y101.a y101.n y101.c), (.int .i64 (IntKind.wrap .i64 (s13.2 + 1)))])]
 ) fun jt =>
 C.draw <|
 C.ix x1.a x1.n 5 s13.2 fun p81 =>
 C.ld .str 1 (p81.add 0) fun v83 =>
 C.ix x1.a x1.n 5 s13.2 fun p86 =>
 C.ld .str 1 (p86.add 4) fun v88 =>
 C.pur (Instr.build ty_impl_Entry #[(0, (.string v83)), (1, (.string v88))]) .agg fun y89 =>
 C.new ty_impl_Entry (.agg (#[(.string (⟨#[]⟩ : ByteArray)), (.string (⟨#[]⟩ : ByteArray))])) fun b12 =>
 C.chk [⟨9, 1, (p86.add 4), .str, v88⟩, ⟨4, 1, (p81.add 0), .str, v83⟩] <|
 C.st 2 (Addr.mk b12 0 none) (.agg y89) <|
 jt [(.pointer (some (Addr.mk b12 0 none)))]
 ) fun jt =>
 C.loop (TL [(.int .i64)]) (embL [(.int .i64)]) [(.int .i64 0)] fun s16 ct16 => C.any fun _ =>
 C.draw <|
 cond (decide (s16 < (s13.1.n : Int))) (
 C.ix s13.1.a s13.1.n 2 s16 fun p67 =>
 C.ld .str 1 (p67.add 0) fun v69 =>
 C.ix x1.a x1.n 5 s13.2 fun p72 =>
 C.ld .str 1 (p72.add 0) fun v74 =>
 C.pur (eqB .lss ty_string (.tmp 69) (.tmp 74) (.string v69) (.string v74)) .bool fun y75 =>
 cond y75 (
 ct16 [(.int .i64 (IntKind.wrap .i64 (s16 + 1)))]
 ) (
 jt [(.int .i64 s16)]
 )
 ) (
 jt [(.int .i64 s16)]
 )
 )
 ) (
 C.call n_spec_ValidEntries [(.slice s13.1.a s13.1.n s13.1.c)] [.bool] fun r103 =>
 cond (!r103) (
 C.sem (Instr.buildSlice ty_sl_impl_Entry 0 #[]) .slice fun y105 =>
 C.ret (.tuple #[(.slice y105.a y105.n y105.c), (.int .i64 3)])
 ) (
 C.ret (.tuple #[(.slice s13.1.a s13.1.n s13.1.c), (.int .i64 0)])
 )
 )
 )
theorem spec_l07Undone_eq (C : Comb) (x0 : Sl) (x1 : Sl) : fT C Tryz.prog ⟨[(3, [(6, .slice), (7, (.int .i64))]), (7, [(8, .bool), (9, (.int .i64))]), (13, [(6, .slice), (10, (.int .i64))]), (17, [(11, (.int .i64))])], [(53, [(11, (.int .i64))]), (58, [(12, .ptr)])], [19, 20], []⟩ n_spec_l07Undone [(.slice x0.a x0.n x0.c), (.slice x1.a x1.n x1.c)] = spec_l07Undone C x0 x1 := by kernel_rfl
theorem spec_l07Undone_calls {R : Value → World → Prop} {w : World} (x0 : Sl) (x1 : Sl) (h : (spec_l07Undone (real Tryz.prog R) x0 x1 : World → Prop) w) :
    Calls Tryz.prog n_spec_l07Undone [(.slice x0.a x0.n x0.c), (.slice x1.a x1.n x1.c)].toArray w fun e w' => ∃ v, e = .returned v ∧ R v w' := fT_sound mixed ⟨[(3, [(6, .slice), (7, (.int .i64))]), (7, [(8, .bool), (9, (.int .i64))]), (13, [(6, .slice), (10, (.int .i64))]), (17, [(11, (.int .i64))])], [(53, [(11, (.int .i64))]), (58, [(12, .ptr)])], [19, 20], []⟩ (by rw [spec_l07Undone_eq]; exact h)

def slices_ContainsFunc_sl_impl_Change_impl_Change (C : Comb) (x0 : Sl) (x1 : Value) : C.St :=
 C.call n_slices_IndexFunc_sl_impl_Change_impl_Change [(.slice x0.a x0.n x0.c), x1] [(.int .i64)] fun r7 =>
 C.ret (.bool (decide (r7 ≥ 0)))
theorem slices_ContainsFunc_sl_impl_Change_impl_Change_eq (C : Comb) (x0 : Sl) (x1 : Value) : fT C Tryz.prog ⟨[], [], [], []⟩ n_slices_ContainsFunc_sl_impl_Change_impl_Change [(.slice x0.a x0.n x0.c), x1] = slices_ContainsFunc_sl_impl_Change_impl_Change C x0 x1 := by kernel_rfl
theorem slices_ContainsFunc_sl_impl_Change_impl_Change_calls {R : Value → World → Prop} {w : World} (x0 : Sl) (x1 : Value) (h : (slices_ContainsFunc_sl_impl_Change_impl_Change (real Tryz.prog R) x0 x1 : World → Prop) w) :
    Calls Tryz.prog n_slices_ContainsFunc_sl_impl_Change_impl_Change [(.slice x0.a x0.n x0.c), x1].toArray w fun e w' => ∃ v, e = .returned v ∧ R v w' := fT_sound mixed ⟨[], [], [], []⟩ (by rw [slices_ContainsFunc_sl_impl_Change_impl_Change_eq]; exact h)

def impl_UndoCommit_1 (C : Comb) (x0 : Array Value) (x1 : Addr) (x2 : Addr) (x3 : Addr) : C.St :=
 C.new ty_impl_Change (.agg x0) fun b4 =>
 C.draw <|
 C.ld .ptr 1 x1 fun v6 =>
 C.ld .agg 32 x2 fun v7 =>
 C.ld .ptr 1 x1 fun v9 =>
 C.ld .agg 32 x3 fun v10 =>
 C.ld .str 1 ((Addr.mk b4 0 none).add 0) fun v13 =>
 C.call n_ptr_impl_ledger_mapOf [(.pointer (some v6)), (.agg v7)] [.slice] fun r8 =>
 C.chk [⟨7, 1, ((Addr.mk b4 0 none).add 0), .str, v13⟩, ⟨4, 32, x3, .agg, v10⟩, ⟨3, 1, x1, .ptr, v9⟩] <|
 C.call n_ptr_impl_ledger_mapOf [(.pointer (some v9)), (.agg v10)] [.slice] fun r11 =>
 C.chk [⟨7, 1, ((Addr.mk b4 0 none).add 0), .str, v13⟩] <|
 C.call n_impl_same [(.slice r8.a r8.n r8.c), (.slice r11.a r11.n r11.c), (.string v13)] [.bool] fun r14 =>
 C.ret (.bool (!r14))
theorem impl_UndoCommit_1_eq (C : Comb) (x0 : Array Value) (x1 : Addr) (x2 : Addr) (x3 : Addr) : fT C Tryz.prog ⟨[], [], [1], []⟩ n_impl_UndoCommit_1 [(.agg x0), (.pointer (some x1)), (.pointer (some x2)), (.pointer (some x3))] = impl_UndoCommit_1 C x0 x1 x2 x3 := by kernel_rfl
theorem impl_UndoCommit_1_calls {R : Value → World → Prop} {w : World} (x0 : Array Value) (x1 : Addr) (x2 : Addr) (x3 : Addr) (h : (impl_UndoCommit_1 (real Tryz.prog R) x0 x1 x2 x3 : World → Prop) w) :
    Calls Tryz.prog n_impl_UndoCommit_1 [(.agg x0), (.pointer (some x1)), (.pointer (some x2)), (.pointer (some x3))].toArray w fun e w' => ∃ v, e = .returned v ∧ R v w' := fT_sound mixed ⟨[], [], [1], []⟩ (by rw [impl_UndoCommit_1_eq]; exact h)

def impl_same (C : Comb) (x0 : Sl) (x1 : Sl) (x2 : ByteArray) : C.St :=
 C.call n_impl_find [(.slice x0.a x0.n x0.c), (.string x2)] [(.int .i64), .bool] fun r14 =>
 C.call n_impl_find [(.slice x1.a x1.n x1.c), (.string x2)] [(.int .i64), .bool] fun r20 =>
 C.draw <|
 C.pur (eqB .eql ty_bool (.tmp 23) (.tmp 24) (.bool r14.2) (.bool r20.2)) .bool fun y25 =>
 cond y25 (
 cond (!r14.2) (
 C.ret (.bool true)
 ) (
 C.ix x0.a x0.n 2 r14.1 fun p32 =>
 C.ld .str 1 (p32.add 1) fun v34 =>
 C.ix x1.a x1.n 2 r20.1 fun p37 =>
 C.ld .str 1 (p37.add 1) fun v39 =>
 C.pur (eqB .eql ty_string (.tmp 34) (.tmp 39) (.string v34) (.string v39)) .bool fun y40 =>
 C.ret (.bool y40)
 )
 ) (
 C.ret (.bool false)
 )
theorem impl_same_eq (C : Comb) (x0 : Sl) (x1 : Sl) (x2 : ByteArray) : fT C Tryz.prog ⟨[], [], [], []⟩ n_impl_same [(.slice x0.a x0.n x0.c), (.slice x1.a x1.n x1.c), (.string x2)] = impl_same C x0 x1 x2 := by kernel_rfl
theorem impl_same_calls {R : Value → World → Prop} {w : World} (x0 : Sl) (x1 : Sl) (x2 : ByteArray) (h : (impl_same (real Tryz.prog R) x0 x1 x2 : World → Prop) w) :
    Calls Tryz.prog n_impl_same [(.slice x0.a x0.n x0.c), (.slice x1.a x1.n x1.c), (.string x2)].toArray w fun e w' => ∃ v, e = .returned v ∧ R v w' := fT_sound mixed ⟨[], [], [], []⟩ (by rw [impl_same_eq]; exact h)

def ptr_impl_ledger_mapOf (C : Comb) (x0 : Addr) (x1 : Array Value) : C.St :=
 C.new ty_impl_Key (.agg x1) fun b3 =>
 C.draw <|
 C.ld .slice 1 ((x0.add 0).add 1) fun v9 =>
 C.ld .agg 32 (Addr.mk b3 0 none) fun v11 =>
 C.call n_ptr_impl_ledger_at [(.pointer (some x0)), (.agg v11)] [(.int .i64)] fun r12 =>
 C.chk [⟨4, 1, ((x0.add 0).add 1), .slice, v9⟩] <|
 C.ix v9.a v9.n 1 r12 fun p13 =>
 C.ld .slice 1 p13 fun v14 =>
 C.ret (.slice v14.a v14.n v14.c)
theorem ptr_impl_ledger_mapOf_eq (C : Comb) (x0 : Addr) (x1 : Array Value) : fT C Tryz.prog ⟨[], [], [1], []⟩ n_ptr_impl_ledger_mapOf [(.pointer (some x0)), (.agg x1)] = ptr_impl_ledger_mapOf C x0 x1 := by kernel_rfl
theorem ptr_impl_ledger_mapOf_calls {R : Value → World → Prop} {w : World} (x0 : Addr) (x1 : Array Value) (h : (ptr_impl_ledger_mapOf (real Tryz.prog R) x0 x1 : World → Prop) w) :
    Calls Tryz.prog n_ptr_impl_ledger_mapOf [(.pointer (some x0)), (.agg x1)].toArray w fun e w' => ∃ v, e = .returned v ∧ R v w' := fT_sound mixed ⟨[], [], [1], []⟩ (by rw [ptr_impl_ledger_mapOf_eq]; exact h)

def slices_Clone_sl_impl_Entry_impl_Entry (C : Comb) (x0 : Sl) : C.St :=
 C.pur (eqB .eql ty_sl_impl_Entry (.tmp 3) (.const (.slice none 0 0)) (.slice x0.a x0.n x0.c) (.slice none 0 0)) .bool fun y4 =>
 cond y4 (
 C.ret (.slice none 0 0)
 ) (
 C.sem (Instr.buildSlice ty_sl_impl_Entry 0 #[]) .slice fun y5 =>
 C.sem (Builtin.append_ #[ty_sl_impl_Entry, ty_sl_impl_Entry] ty_sl_impl_Entry #[(.slice y5.a y5.n y5.c), (.slice x0.a x0.n x0.c)]) .slice fun y7 =>
 C.ret (.slice y7.a y7.n y7.c)
 )
theorem slices_Clone_sl_impl_Entry_impl_Entry_eq (C : Comb) (x0 : Sl) : fT C Tryz.prog ⟨[], [], [], []⟩ n_slices_Clone_sl_impl_Entry_impl_Entry [(.slice x0.a x0.n x0.c)] = slices_Clone_sl_impl_Entry_impl_Entry C x0 := by kernel_rfl
theorem slices_Clone_sl_impl_Entry_impl_Entry_calls {R : Value → World → Prop} {w : World} (x0 : Sl) (h : (slices_Clone_sl_impl_Entry_impl_Entry (real Tryz.prog R) x0 : World → Prop) w) :
    Calls Tryz.prog n_slices_Clone_sl_impl_Entry_impl_Entry [(.slice x0.a x0.n x0.c)].toArray w fun e w' => ∃ v, e = .returned v ∧ R v w' := fT_sound mixed ⟨[], [], [], []⟩ (by rw [slices_Clone_sl_impl_Entry_impl_Entry_eq]; exact h)

def impl_find (C : Comb) (x0 : Sl) (x1 : ByteArray) : C.St :=
 C.call n_slices_BinarySearchFunc_sl_impl_Entry_impl_Entry_string [(.slice x0.a x0.n x0.c), (.string x1), (.func (.func n_impl_find_1) #[] #[])] [(.int .i64), .bool] fun r8 =>
 C.ret (.tuple #[(.int .i64 r8.1), (.bool r8.2)])
theorem impl_find_eq (C : Comb) (x0 : Sl) (x1 : ByteArray) : fT C Tryz.prog ⟨[], [], [], []⟩ n_impl_find [(.slice x0.a x0.n x0.c), (.string x1)] = impl_find C x0 x1 := by kernel_rfl
theorem impl_find_calls {R : Value → World → Prop} {w : World} (x0 : Sl) (x1 : ByteArray) (h : (impl_find (real Tryz.prog R) x0 x1 : World → Prop) w) :
    Calls Tryz.prog n_impl_find [(.slice x0.a x0.n x0.c), (.string x1)].toArray w fun e w' => ∃ v, e = .returned v ∧ R v w' := fT_sound mixed ⟨[], [], [], []⟩ (by rw [impl_find_eq]; exact h)

def slices_Delete_sl_impl_Entry_impl_Entry (C : Comb) (x0 : Sl) (x1 : Int) (x2 : Int) : C.St :=
 C.sl x0.a x0.n x0.c 2 (some x1) (some x2) (some (x0.n : Int)) fun y13 =>
 cond (x1 == x2) (
 C.ret (.slice x0.a x0.n x0.c)
 ) (
 C.join (TL [.slice]) (embL [.slice]) (fun s5 => C.any fun _ =>
 C.sl s5.a s5.n s5.c 2 (some (s5.n : Int)) (some (x0.n : Int)) none fun y31 =>
 C.sem (Builtin.clear_ #[ty_sl_impl_Entry] ty_x #[(.slice y31.a y31.n y31.c)]) .val fun yq7 =>
 C.ret (.slice s5.a s5.n s5.c)
 ) fun jt =>
 C.draw <|
 C.sl x0.a x0.n x0.c 2 none (some x1) none fun y22 =>
 C.sl x0.a x0.n x0.c 2 (some x2) none none fun y25 =>
 C.sem (Builtin.append_ #[ty_sl_impl_Entry, ty_sl_impl_Entry] ty_sl_impl_Entry #[(.slice y22.a y22.n y22.c), (.slice y25.a y25.n y25.c)]) .slice fun y26 =>
 jt [(.slice y26.a y26.n y26.c)]
 )
theorem slices_Delete_sl_impl_Entry_impl_Entry_eq (C : Comb) (x0 : Sl) (x1 : Int) (x2 : Int) : fT C Tryz.prog ⟨[], [(16, [(0, .slice)])], [5], []⟩ n_slices_Delete_sl_impl_Entry_impl_Entry [(.slice x0.a x0.n x0.c), (.int .i64 x1), (.int .i64 x2)] = slices_Delete_sl_impl_Entry_impl_Entry C x0 x1 x2 := by kernel_rfl
theorem slices_Delete_sl_impl_Entry_impl_Entry_calls {R : Value → World → Prop} {w : World} (x0 : Sl) (x1 : Int) (x2 : Int) (h : (slices_Delete_sl_impl_Entry_impl_Entry (real Tryz.prog R) x0 x1 x2 : World → Prop) w) :
    Calls Tryz.prog n_slices_Delete_sl_impl_Entry_impl_Entry [(.slice x0.a x0.n x0.c), (.int .i64 x1), (.int .i64 x2)].toArray w fun e w' => ∃ v, e = .returned v ∧ R v w' := fT_sound mixed ⟨[], [(16, [(0, .slice)])], [5], []⟩ (by rw [slices_Delete_sl_impl_Entry_impl_Entry_eq]; exact h)

def slices_Insert_sl_impl_Entry_impl_Entry (C : Comb) (x0 : Sl) (x1 : Int) (x2 : Sl) : C.St :=
 C.sl x0.a x0.n x0.c 2 (some x1) none none fun y12 =>
 cond ((x2.n : Int) == 0) (
 C.ret (.slice x0.a x0.n x0.c)
 ) (
 cond (x1 == (x0.n : Int)) (
 C.sem (Builtin.append_ #[ty_sl_impl_Entry, ty_sl_impl_Entry] ty_sl_impl_Entry #[(.slice x0.a x0.n x0.c), (.slice x2.a x2.n x2.c)]) .slice fun y25 =>
 C.ret (.slice y25.a y25.n y25.c)
 ) (
 cond (decide ((IntKind.wrap .i64 ((x0.n : Int) + (x2.n : Int))) > (x0.c : Int))) (
 C.sl x0.a x0.n x0.c 2 none (some x1) none fun y34 =>
 C.sem (Builtin.append_ #[ty_sl_impl_Entry, ty_int] ty_sl_impl_Entry #[(.slice y34.a y34.n y34.c), (.int .i64 (IntKind.wrap .i64 ((IntKind.wrap .i64 ((x0.n : Int) + (x2.n : Int))) - x1)))]) .slice fun y40 =>
 C.sl y40.a y40.n y40.c 2 (some x1) none none fun y43 =>
 C.sem (Builtin.copy_ #[ty_sl_impl_Entry, ty_sl_impl_Entry] ty_int #[(.slice y43.a y43.n y43.c), (.slice x2.a x2.n x2.c)]) (.int .i64) fun y45 =>
 C.draw <|
 C.sl y40.a y40.n y40.c 2 (some (IntKind.wrap .i64 (x1 + (x2.n : Int)))) none none fun y50 =>
 C.sl x0.a x0.n x0.c 2 (some x1) none none fun y53 =>
 C.sem (Builtin.copy_ #[ty_sl_impl_Entry, ty_sl_impl_Entry] ty_int #[(.slice y50.a y50.n y50.c), (.slice y53.a y53.n y53.c)]) (.int .i64) fun y54 =>
 C.ret (.slice y40.a y40.n y40.c)
 ) (
 C.sl x0.a x0.n x0.c 2 none (some (IntKind.wrap .i64 ((x0.n : Int) + (x2.n : Int)))) none fun y60 =>
 C.sl y60.a y60.n y60.c 2 (some (IntKind.wrap .i64 (x1 + (x2.n : Int)))) none none fun y66 =>
 C.ext n_slices_overlaps_impl_Entry [(.slice x2.a x2.n x2.c), (.slice y66.a y66.n y66.c)] [.bool] fun r67 =>
 cond (!r67) (
 C.join (TL []) (embL []) (fun s16 => C.any fun _ =>
 C.sl y60.a y60.n y60.c 2 (some x1) none none fun y80 =>
 C.sem (Builtin.copy_ #[ty_sl_impl_Entry, ty_sl_impl_Entry] ty_int #[(.slice y80.a y80.n y80.c), (.slice x2.a x2.n x2.c)]) (.int .i64) fun y82 =>
 C.ret (.slice y60.a y60.n y60.c)
 ) fun jt =>
 C.draw <|
 C.sl y60.a y60.n y60.c 2 (some (IntKind.wrap .i64 (x1 + (x2.n : Int)))) none none fun y73 =>
 C.sl y60.a y60.n y60.c 2 (some x1) none none fun y76 =>
 C.sem (Builtin.copy_ #[ty_sl_impl_Entry, ty_sl_impl_Entry] ty_int #[(.slice y73.a y73.n y73.c), (.slice y76.a y76.n y76.c)]) (.int .i64) fun y77 =>
 jt []
 ) (
 C.sl y60.a y60.n y60.c 2 (some (x0.n : Int)) none none fun y86 =>
 C.sem (Builtin.copy_ #[ty_sl_impl_Entry, ty_sl_impl_Entry] ty_int #[(.slice y86.a y86.n y86.c), (.slice x2.a x2.n x2.c)]) (.int .i64) fun y88 =>
 C.sl y60.a y60.n y60.c 2 (some x1) none none fun y91 =>
 C.call n_slices_rotateRight_impl_Entry [(.slice y91.a y91.n y91.c), (.int .i64 (x2.n : Int))] [] fun r93 =>
 C.ret (.slice y60.a y60.n y60.c)
 )
 )
 )
 )
theorem slices_Insert_sl_impl_Entry_impl_Entry_eq (C : Comb) (x0 : Sl) (x1 : Int) (x2 : Sl) : fT C Tryz.prog ⟨[], [(46, [])], [11, 15], []⟩ n_slices_Insert_sl_impl_Entry_impl_Entry [(.slice x0.a x0.n x0.c), (.int .i64 x1), (.slice x2.a x2.n x2.c)] = slices_Insert_sl_impl_Entry_impl_Entry C x0 x1 x2 := by kernel_rfl
theorem slices_Insert_sl_impl_Entry_impl_Entry_calls {R : Value → World → Prop} {w : World} (x0 : Sl) (x1 : Int) (x2 : Sl) (h : (slices_Insert_sl_impl_Entry_impl_Entry (real Tryz.prog R) x0 x1 x2 : World → Prop) w) :
    Calls Tryz.prog n_slices_Insert_sl_impl_Entry_impl_Entry [(.slice x0.a x0.n x0.c), (.int .i64 x1), (.slice x2.a x2.n x2.c)].toArray w fun e w' => ∃ v, e = .returned v ∧ R v w' := fT_sound mixed ⟨[], [(46, [])], [11, 15], []⟩ (by rw [slices_Insert_sl_impl_Entry_impl_Entry_eq]; exact h)

def ptr_impl_ledger_find (C : Comb) (x0 : Addr) (x1 : Array Value) : C.St :=
 C.new ty_impl_Key (.agg x1) fun b3 =>
 C.draw <|
 C.ld .slice 1 (x0.add 2) fun v10 =>
 C.ld .agg 32 (Addr.mk b3 0 none) fun v11 =>
 C.call n_slices_Index_sl_impl_Key_impl_Key [(.slice v10.a v10.n v10.c), (.agg v11)] [(.int .i64)] fun r12 =>
 C.ret (.tuple #[(.int .i64 r12), (.bool (decide (r12 ≥ 0)))])
theorem ptr_impl_ledger_find_eq (C : Comb) (x0 : Addr) (x1 : Array Value) : fT C Tryz.prog ⟨[], [], [1], []⟩ n_ptr_impl_ledger_find [(.pointer (some x0)), (.agg x1)] = ptr_impl_ledger_find C x0 x1 := by kernel_rfl
theorem ptr_impl_ledger_find_calls {R : Value → World → Prop} {w : World} (x0 : Addr) (x1 : Array Value) (h : (ptr_impl_ledger_find (real Tryz.prog R) x0 x1 : World → Prop) w) :
    Calls Tryz.prog n_ptr_impl_ledger_find [(.pointer (some x0)), (.agg x1)].toArray w fun e w' => ∃ v, e = .returned v ∧ R v w' := fT_sound mixed ⟨[], [], [1], []⟩ (by rw [ptr_impl_ledger_find_eq]; exact h)

def slices_Compact_sl_impl_Key_impl_Key (C : Comb) (x0 : Sl) : C.St :=
 cond (decide ((x0.n : Int) < 2)) (
 C.ret (.slice x0.a x0.n x0.c)
 ) (
 C.loop (TL [(.int .i64)]) (embL [(.int .i64)]) [(.int .i64 1)] fun s1 ct1 => C.any fun _ =>
 cond (decide (s1 < (x0.n : Int))) (
 C.draw <|
 C.ix x0.a x0.n 32 s1 fun p18 =>
 C.ld .agg 32 p18 fun v19 =>
 C.ix x0.a x0.n 32 (IntKind.wrap .i64 (s1 - 1)) fun p23 =>
 C.ld .agg 32 p23 fun v24 =>
 C.pur (eqB .eql ty_impl_Key (.tmp 19) (.tmp 24) (.agg v19) (.agg v24)) .bool fun y25 =>
 cond y25 (
 C.sl x0.a x0.n x0.c 32 (some s1) none none fun y28 =>
 C.loop (TL [(.int .i64), (.int .i64)]) (embL [(.int .i64), (.int .i64)]) [(.int .i64 s1), (.int .i64 1)] fun s8 ct8 => C.any fun _ =>
 cond (decide (s8.2 < (y28.n : Int))) (
 C.draw <|
 C.ix y28.a y28.n 32 s8.2 fun p37 =>
 C.ld .agg 32 p37 fun v38 =>
 C.ix y28.a y28.n 32 (IntKind.wrap .i64 (s8.2 - 1)) fun p42 =>
 C.ld .agg 32 p42 fun v43 =>
 C.pur (eqB .neq ty_impl_Key (.tmp 38) (.tmp 43) (.agg v38) (.agg v43)) .bool fun y44 =>
 cond y44 (
 C.ix y28.a y28.n 32 s8.2 fun p49 =>
 C.ld .agg 32 p49 fun v50 =>
 C.ix x0.a x0.n 32 s8.1 fun p51 =>
 C.st 32 p51 (.agg v50) <|
 ct8 [(.int .i64 (IntKind.wrap .i64 (s8.1 + 1))), (.int .i64 (IntKind.wrap .i64 (s8.2 + 1)))]
 ) (
 ct8 [(.int .i64 s8.1), (.int .i64 (IntKind.wrap .i64 (s8.2 + 1)))]
 )
 ) (
 C.sl x0.a x0.n x0.c 32 (some s8.1) none none fun y56 =>
 C.sem (Builtin.clear_ #[ty_sl_impl_Key] ty_x #[(.slice y56.a y56.n y56.c)]) .val fun yq18 =>
 C.sl x0.a x0.n x0.c 32 none (some s8.1) none fun y59 =>
 C.ret (.slice y59.a y59.n y59.c)
 )
 ) (
 ct1 [(.int .i64 (IntKind.wrap .i64 (s1 + 1)))]
 )
 ) (
 C.ret (.slice x0.a x0.n x0.c)
 )
 )
theorem slices_Compact_sl_impl_Key_impl_Key_eq (C : Comb) (x0 : Sl) : fT C Tryz.prog ⟨[(4, [(3, (.int .i64))]), (9, [(3, (.int .i64)), (5, (.int .i64))])], [], [], []⟩ n_slices_Compact_sl_impl_Key_impl_Key [(.slice x0.a x0.n x0.c)] = slices_Compact_sl_impl_Key_impl_Key C x0 := by kernel_rfl
theorem slices_Compact_sl_impl_Key_impl_Key_calls {R : Value → World → Prop} {w : World} (x0 : Sl) (h : (slices_Compact_sl_impl_Key_impl_Key (real Tryz.prog R) x0 : World → Prop) w) :
    Calls Tryz.prog n_slices_Compact_sl_impl_Key_impl_Key [(.slice x0.a x0.n x0.c)].toArray w fun e w' => ∃ v, e = .returned v ∧ R v w' := fT_sound mixed ⟨[(4, [(3, (.int .i64))]), (9, [(3, (.int .i64)), (5, (.int .i64))])], [], [], []⟩ (by rw [slices_Compact_sl_impl_Key_impl_Key_eq]; exact h)

def slices_Index_sl_impl_Key_impl_Key (C : Comb) (x0 : Sl) (x1 : Array Value) : C.St :=
 C.new ty_impl_Key (.agg x1) fun b3 =>
 C.loop (TL [(.int .i64)]) (embL [(.int .i64)]) [(.int .i64 0)] fun s2 ct2 => C.any fun _ =>
 cond (decide (s2 < (x0.n : Int))) (
 C.draw <|
 C.ld .agg 32 (Addr.mk b3 0 none) fun v11 =>
 C.ix x0.a x0.n 32 s2 fun p14 =>
 C.ld .agg 32 p14 fun v15 =>
 C.pur (eqB .eql ty_impl_Key (.tmp 11) (.tmp 15) (.agg v11) (.agg v15)) .bool fun y16 =>
 cond y16 (
 C.ret (.int .i64 s2)
 ) (
 ct2 [(.int .i64 (IntKind.wrap .i64 (s2 + 1)))]
 )
 ) (
 C.ret (.int .i64 (-1))
 )
theorem slices_Index_sl_impl_Key_impl_Key_eq (C : Comb) (x0 : Sl) (x1 : Array Value) : fT C Tryz.prog ⟨[(2, [(8, (.int .i64))])], [], [], []⟩ n_slices_Index_sl_impl_Key_impl_Key [(.slice x0.a x0.n x0.c), (.agg x1)] = slices_Index_sl_impl_Key_impl_Key C x0 x1 := by kernel_rfl
theorem slices_Index_sl_impl_Key_impl_Key_calls {R : Value → World → Prop} {w : World} (x0 : Sl) (x1 : Array Value) (h : (slices_Index_sl_impl_Key_impl_Key (real Tryz.prog R) x0 x1 : World → Prop) w) :
    Calls Tryz.prog n_slices_Index_sl_impl_Key_impl_Key [(.slice x0.a x0.n x0.c), (.agg x1)].toArray w fun e w' => ∃ v, e = .returned v ∧ R v w' := fT_sound mixed ⟨[(2, [(8, (.int .i64))])], [], [], []⟩ (by rw [slices_Index_sl_impl_Key_impl_Key_eq]; exact h)

def spec_l00In (C : Comb) (x0 : Int) (x1 : Int) (x2 : Int) : C.St :=
 cond (decide (x0 ≥ x1)) (
 C.ret (.bool (decide (x0 ≤ x2)))
 ) (
 C.ret (.bool false)
 )
theorem spec_l00In_eq (C : Comb) (x0 : Int) (x1 : Int) (x2 : Int) : fT C Tryz.prog ⟨[], [], [], []⟩ n_spec_l00In [(.int .i64 x0), (.int .i64 x1), (.int .i64 x2)] = spec_l00In C x0 x1 x2 := by kernel_rfl
theorem spec_l00In_calls {R : Value → World → Prop} {w : World} (x0 : Int) (x1 : Int) (x2 : Int) (h : (spec_l00In (real Tryz.prog R) x0 x1 x2 : World → Prop) w) :
    Calls Tryz.prog n_spec_l00In [(.int .i64 x0), (.int .i64 x1), (.int .i64 x2)].toArray w fun e w' => ∃ v, e = .returned v ∧ R v w' := fT_sound mixed ⟨[], [], [], []⟩ (by rw [spec_l00In_eq]; exact h)

def spec_l07Data (C : Comb) (x0 : Addr) : C.St :=
 C.join (TL [.slice]) (embL [.slice]) (fun s5 => C.any fun _ =>
 C.loop (TL [.slice, (.int .i64)]) (embL [.slice, (.int .i64)]) [(.slice s5.a s5.n s5.c), (.int .i64 0)] fun s6 ct6 => C.any fun _ =>
 C.ld .slice 1 (x0.add 32) fun v22 =>
 cond (decide (s6.2 < (v22.n : Int))) (
 C.ld .slice 1 (x0.add 32) fun v31 =>
 C.ix v31.a v31.n 32 s6.2 fun p33 =>
 C.ld .agg 32 p33 fun v34 =>
 C.call n_spec_l07Add [(.slice s6.1.a s6.1.n s6.1.c), (.agg v34)] [.slice] fun r35 =>
 ct6 [(.slice r35.a r35.n r35.c), (.int .i64 (IntKind.wrap .i64 (s6.2 + 1)))]
 ) (
 C.draw <|
 C.ld (.int .i64) 1 (x0.add 33) fun v40 =>
 C.ld .str 1 (x0.add 34) fun v47 =>
 C.all [
 (C.sem (Instr.buildSlice ty_sl_uint8 1 #[(0, (.int .u8 (IntKind.wrap .u8 (v40))))]) .slice fun y42 =>
 C.chk [⟨11, 1, (x0.add 34), .str, v47⟩, ⟨4, 1, (x0.add 33), (.int .i64), v40⟩] <|
 C.all [
 (C.sem (Builtin.append_ #[ty_sl_uint8, ty_sl_uint8] ty_sl_uint8 #[(.slice s6.1.a s6.1.n s6.1.c), (.slice y42.a y42.n y42.c)]) .slice fun y43 =>
 C.chk [⟨11, 1, (x0.add 34), .str, v47⟩, ⟨4, 1, (x0.add 33), (.int .i64), v40⟩] <|
 C.sem (convert ty_string ty_sl_uint8 (.string v47)) .slice fun y48 =>
 C.chk [⟨4, 1, (x0.add 33), (.int .i64), v40⟩] <|
 C.sem (Builtin.append_ #[ty_sl_uint8, ty_sl_uint8] ty_sl_uint8 #[(.slice y43.a y43.n y43.c), (.slice y48.a y48.n y48.c)]) .slice fun y49 =>
 C.chk [⟨4, 1, (x0.add 33), (.int .i64), v40⟩] <|
 C.ret (.slice y49.a y49.n y49.c)),
 (C.sem (convert ty_string ty_sl_uint8 (.string v47)) .slice fun y48 =>
 C.chk [⟨4, 1, (x0.add 33), (.int .i64), v40⟩] <|
 C.sem (Builtin.append_ #[ty_sl_uint8, ty_sl_uint8] ty_sl_uint8 #[(.slice s6.1.a s6.1.n s6.1.c), (.slice y42.a y42.n y42.c)]) .slice fun y43 =>
 C.chk [⟨4, 1, (x0.add 33), (.int .i64), v40⟩] <|
 C.sem (Builtin.append_ #[ty_sl_uint8, ty_sl_uint8] ty_sl_uint8 #[(.slice y43.a y43.n y43.c), (.slice y48.a y48.n y48.c)]) .slice fun y49 =>
 C.chk [⟨4, 1, (x0.add 33), (.int .i64), v40⟩] <|
 C.ret (.slice y49.a y49.n y49.c))]),
 (C.sem (convert ty_string ty_sl_uint8 (.string v47)) .slice fun y48 =>
 C.chk [⟨4, 1, (x0.add 33), (.int .i64), v40⟩] <|
 C.sem (Instr.buildSlice ty_sl_uint8 1 #[(0, (.int .u8 (IntKind.wrap .u8 (v40))))]) .slice fun y42 =>
 C.chk [⟨4, 1, (x0.add 33), (.int .i64), v40⟩] <|
 C.sem (Builtin.append_ #[ty_sl_uint8, ty_sl_uint8] ty_sl_uint8 #[(.slice s6.1.a s6.1.n s6.1.c), (.slice y42.a y42.n y42.c)]) .slice fun y43 =>
 C.chk [⟨4, 1, (x0.add 33), (.int .i64), v40⟩] <|
 C.sem (Builtin.append_ #[ty_sl_uint8, ty_sl_uint8] ty_sl_uint8 #[(.slice y43.a y43.n y43.c), (.slice y48.a y48.n y48.c)]) .slice fun y49 =>
 C.chk [⟨4, 1, (x0.add 33), (.int .i64), v40⟩] <|
 C.ret (.slice y49.a y49.n y49.c))]
 )
 ) fun jt =>
 C.draw <|
 C.ld .slice 1 (x0.add 32) fun v8 =>
 C.ld .agg 32 (x0.add 0) fun v16 =>
 C.sem (Instr.buildSlice ty_sl_uint8 1 #[(0, (.int .u8 (IntKind.wrap .u8 ((IntKind.wrap .i64 ((v8.n : Int) + 1))))))]) .slice fun y12 =>
 C.chk [⟨11, 32, (x0.add 0), .agg, v16⟩, ⟨3, 1, (x0.add 32), .slice, v8⟩] <|
 C.call n_spec_l07Add [(.slice y12.a y12.n y12.c), (.agg v16)] [.slice] fun r17 =>
 C.chk [⟨3, 1, (x0.add 32), .slice, v8⟩] <|
 jt [(.slice r17.a r17.n r17.c)]
theorem spec_l07Data_eq (C : Comb) (x0 : Addr) : fT C Tryz.prog ⟨[(3, [(3, .slice), (4, (.int .i64))])], [(4, [(3, .slice)])], [1, 6], []⟩ n_spec_l07Data [(.pointer (some x0))] = spec_l07Data C x0 := by kernel_rfl
theorem spec_l07Data_calls {R : Value → World → Prop} {w : World} (x0 : Addr) (h : (spec_l07Data (real Tryz.prog R) x0 : World → Prop) w) :
    Calls Tryz.prog n_spec_l07Data [(.pointer (some x0))].toArray w fun e w' => ∃ v, e = .returned v ∧ R v w' := fT_sound mixed ⟨[(3, [(3, .slice), (4, (.int .i64))])], [(4, [(3, .slice)])], [1, 6], []⟩ (by rw [spec_l07Data_eq]; exact h)

def slices_Compare_sl_byte_byte (C : Comb) (x0 : Sl) (x1 : Sl) : C.St :=
 C.loop (TL [(.int .i64)]) (embL [(.int .i64)]) [(.int .i64 0)] fun s1 ct1 => C.any fun _ =>
 cond (decide (s1 < (x0.n : Int))) (
 C.ix x0.a x0.n 1 s1 fun p14 =>
 C.ld (.int .u8) 1 p14 fun v15 =>
 cond (decide (s1 ≥ (x1.n : Int))) (
 C.ret (.int .i64 1)
 ) (
 C.ix x1.a x1.n 1 s1 fun p22 =>
 C.ld (.int .u8) 1 p22 fun v23 =>
 C.call n_cmp_Compare_byte [(.int .u8 v15), (.int .u8 v23)] [(.int .i64)] fun r26 =>
 cond (r26 != 0) (
 C.ret (.int .i64 r26)
 ) (
 ct1 [(.int .i64 (IntKind.wrap .i64 (s1 + 1)))]
 )
 )
 ) (
 cond (decide ((x0.n : Int) < (x1.n : Int))) (
 C.ret (.int .i64 (-1))
 ) (
 C.ret (.int .i64 0)
 )
 )
theorem slices_Compare_sl_byte_byte_eq (C : Comb) (x0 : Sl) (x1 : Sl) : fT C Tryz.prog ⟨[(2, [(11, (.int .i64))])], [], [], []⟩ n_slices_Compare_sl_byte_byte [(.slice x0.a x0.n x0.c), (.slice x1.a x1.n x1.c)] = slices_Compare_sl_byte_byte C x0 x1 := by kernel_rfl
theorem slices_Compare_sl_byte_byte_calls {R : Value → World → Prop} {w : World} (x0 : Sl) (x1 : Sl) (h : (slices_Compare_sl_byte_byte (real Tryz.prog R) x0 x1 : World → Prop) w) :
    Calls Tryz.prog n_slices_Compare_sl_byte_byte [(.slice x0.a x0.n x0.c), (.slice x1.a x1.n x1.c)].toArray w fun e w' => ∃ v, e = .returned v ∧ R v w' := fT_sound mixed ⟨[(2, [(11, (.int .i64))])], [], [], []⟩ (by rw [slices_Compare_sl_byte_byte_eq]; exact h)

def laws_szCommit (C : Comb) (x0 : Array Value) (x1 : Int) : C.St :=
 C.new ty_laws_Commit (.agg x0) fun b2 =>
 C.ld .slice 1 ((Addr.mk b2 0 none).add 32) fun v6 =>
 C.call n_laws_szKeyS [(.slice v6.a v6.n v6.c), (.int .i64 x1)] [(.int .i64)] fun r8 =>
 cond (decide (r8 < 0)) (
 C.ret (.int .i64 (-1))
 ) (
 C.ld .str 1 ((Addr.mk b2 0 none).add 34) fun v13 =>
 cond (decide ((IntKind.wrap .i64 (r8 - (v13.size : Int))) < 0)) (
 C.ret (.int .i64 (-1))
 ) (
 C.ret (.int .i64 (IntKind.wrap .i64 (r8 - (v13.size : Int))))
 )
 )
theorem laws_szCommit_eq (C : Comb) (x0 : Array Value) (x1 : Int) : fT C Tryz.prog ⟨[], [], [], []⟩ n_laws_szCommit [(.agg x0), (.int .i64 x1)] = laws_szCommit C x0 x1 := by kernel_rfl
theorem laws_szCommit_calls {R : Value → World → Prop} {w : World} (x0 : Array Value) (x1 : Int) (h : (laws_szCommit (real Tryz.prog R) x0 x1 : World → Prop) w) :
    Calls Tryz.prog n_laws_szCommit [(.agg x0), (.int .i64 x1)].toArray w fun e w' => ∃ v, e = .returned v ∧ R v w' := fT_sound mixed ⟨[], [], [], []⟩ (by rw [laws_szCommit_eq]; exact h)

def spec_ChangesOf (C : Comb) (x0 : Sl) (x1 : Sl) : C.St :=
 C.call n_spec_l04Ok [(.slice x0.a x0.n x0.c)] [.bool] fun r7 =>
 cond (!r7) (
 C.sem (Instr.buildSlice ty_sl_impl_Change 0 #[]) .slice fun y14 =>
 C.ret (.tuple #[(.slice y14.a y14.n y14.c), (.int .i64 1)])
 ) (
 C.call n_spec_l04Ok [(.slice x1.a x1.n x1.c)] [.bool] fun r11 =>
 cond (!r11) (
 C.sem (Instr.buildSlice ty_sl_impl_Change 0 #[]) .slice fun y14 =>
 C.ret (.tuple #[(.slice y14.a y14.n y14.c), (.int .i64 1)])
 ) (
 C.call n_spec_l04Changes [(.slice x0.a x0.n x0.c), (.slice x1.a x1.n x1.c)] [.slice] fun r17 =>
 C.ret (.tuple #[(.slice r17.a r17.n r17.c), (.int .i64 0)])
 )
 )
theorem spec_ChangesOf_eq (C : Comb) (x0 : Sl) (x1 : Sl) : fT C Tryz.prog ⟨[], [], [], []⟩ n_spec_ChangesOf [(.slice x0.a x0.n x0.c), (.slice x1.a x1.n x1.c)] = spec_ChangesOf C x0 x1 := by kernel_rfl
theorem spec_ChangesOf_calls {R : Value → World → Prop} {w : World} (x0 : Sl) (x1 : Sl) (h : (spec_ChangesOf (real Tryz.prog R) x0 x1 : World → Prop) w) :
    Calls Tryz.prog n_spec_ChangesOf [(.slice x0.a x0.n x0.c), (.slice x1.a x1.n x1.c)].toArray w fun e w' => ∃ v, e = .returned v ∧ R v w' := fT_sound mixed ⟨[], [], [], []⟩ (by rw [spec_ChangesOf_eq]; exact h)

def laws_toCommit (C : Comb) (x0 : Array Value) : C.St :=
 C.new ty_laws_Commit (.agg x0) fun b1 =>
 C.new ty_impl_Commit (.agg (#[(.int .u8 0), (.int .u8 0), (.int .u8 0), (.int .u8 0), (.int .u8 0), (.int .u8 0), (.int .u8 0), (.int .u8 0), (.int .u8 0), (.int .u8 0), (.int .u8 0), (.int .u8 0), (.int .u8 0), (.int .u8 0), (.int .u8 0), (.int .u8 0), (.int .u8 0), (.int .u8 0), (.int .u8 0), (.int .u8 0), (.int .u8 0), (.int .u8 0), (.int .u8 0), (.int .u8 0), (.int .u8 0), (.int .u8 0), (.int .u8 0), (.int .u8 0), (.int .u8 0), (.int .u8 0), (.int .u8 0), (.int .u8 0), (.slice none 0 0), (.int .i64 0), (.string (⟨#[]⟩ : ByteArray))])) fun b2 =>
 C.new ty_impl_Commit (.agg (#[(.int .u8 0), (.int .u8 0), (.int .u8 0), (.int .u8 0), (.int .u8 0), (.int .u8 0), (.int .u8 0), (.int .u8 0), (.int .u8 0), (.int .u8 0), (.int .u8 0), (.int .u8 0), (.int .u8 0), (.int .u8 0), (.int .u8 0), (.int .u8 0), (.int .u8 0), (.int .u8 0), (.int .u8 0), (.int .u8 0), (.int .u8 0), (.int .u8 0), (.int .u8 0), (.int .u8 0), (.int .u8 0), (.int .u8 0), (.int .u8 0), (.int .u8 0), (.int .u8 0), (.int .u8 0), (.int .u8 0), (.int .u8 0), (.slice none 0 0), (.int .i64 0), (.string (⟨#[]⟩ : ByteArray))])) fun b3 =>
 C.ld .agg 32 ((Addr.mk b1 0 none).add 0) fun v5 =>
 C.call n_laws_toKey [(.agg v5)] [.agg] fun r6 =>
 C.st 32 ((Addr.mk b3 0 none).add 0) (.agg r6) <|
 C.ld .slice 1 ((Addr.mk b1 0 none).add 32) fun v9 =>
 C.call n_laws_toKeyS [(.slice v9.a v9.n v9.c)] [.slice] fun r10 =>
 C.st 1 ((Addr.mk b3 0 none).add 32) (.slice r10.a r10.n r10.c) <|
 C.ld (.int .i64) 1 ((Addr.mk b1 0 none).add 33) fun v13 =>
 C.st 1 ((Addr.mk b3 0 none).add 33) (.int .i64 v13) <|
 C.ld .str 1 ((Addr.mk b1 0 none).add 34) fun v16 =>
 C.st 1 ((Addr.mk b3 0 none).add 34) (.string v16) <|
 C.ld .agg 35 (Addr.mk b3 0 none) fun v18 =>
 C.st 35 (Addr.mk b2 0 none) (.agg v18) <|
 C.ld .agg 35 (Addr.mk b2 0 none) fun z11 =>
 C.ret (.agg z11)
theorem laws_toCommit_eq (C : Comb) (x0 : Array Value) : fT C Tryz.prog ⟨[], [], [], []⟩ n_laws_toCommit [(.agg x0)] = laws_toCommit C x0 := by kernel_rfl
theorem laws_toCommit_calls {R : Value → World → Prop} {w : World} (x0 : Array Value) (h : (laws_toCommit (real Tryz.prog R) x0 : World → Prop) w) :
    Calls Tryz.prog n_laws_toCommit [(.agg x0)].toArray w fun e w' => ∃ v, e = .returned v ∧ R v w' := fT_sound mixed ⟨[], [], [], []⟩ (by rw [laws_toCommit_eq]; exact h)

def impl_changes (C : Comb) (x0 : Sl) (x1 : Sl) : C.St :=
 C.sem (Instr.buildSlice ty_sl_impl_Change 0 #[]) .slice fun y6 =>
 C.loop (TL [.slice, .slice, .slice]) (embL [.slice, .slice, .slice]) [(.slice x0.a x0.n x0.c), (.slice x1.a x1.n x1.c), (.slice y6.a y6.n y6.c)] fun s2 ct2 => C.any fun _ =>
 C.join (TL []) (embL []) (fun s3 => C.any fun _ =>
 C.join (TL [.bool]) (embL [.bool]) (fun s9 => C.any fun _ =>
 cond s9 (
 C.draw <|
 C.ix s2.1.a s2.1.n 2 0 fun p66 =>
 C.ld .str 1 (p66.add 0) fun v68 =>
 C.ix s2.1.a s2.1.n 2 0 fun p70 =>
 C.ld .str 1 (p70.add 1) fun v72 =>
 C.pur (Instr.build ty_impl_Change #[(0, (.string v68)), (1, (.bool true)), (2, (.string v72))]) .agg fun y73 =>
 C.sem (Instr.buildSlice ty_sl_impl_Change 1 #[(0, (.agg y73))]) .slice fun y74 =>
 C.chk [⟨8, 1, (p70.add 1), .str, v72⟩, ⟨4, 1, (p66.add 0), .str, v68⟩] <|
 C.sem (Builtin.append_ #[ty_sl_impl_Change, ty_sl_impl_Change] ty_sl_impl_Change #[(.slice s2.2.2.a s2.2.2.n s2.2.2.c), (.slice y74.a y74.n y74.c)]) .slice fun y75 =>
 C.chk [⟨8, 1, (p70.add 1), .str, v72⟩, ⟨4, 1, (p66.add 0), .str, v68⟩] <|
 C.sl s2.1.a s2.1.n s2.1.c 2 (some 1) none none fun y77 =>
 ct2 [(.slice y77.a y77.n y77.c), (.slice s2.2.1.a s2.2.1.n s2.2.1.c), (.slice y75.a y75.n y75.c)]
 ) (
 C.join (TL [.bool]) (embL [.bool]) (fun s23 => C.any fun _ =>
 cond s23 (
 C.draw <|
 C.ix s2.2.1.a s2.2.1.n 2 0 fun p95 =>
 C.ld .str 1 (p95.add 0) fun v97 =>
 C.ix s2.2.1.a s2.2.1.n 2 0 fun p99 =>
 C.ld .str 1 (p99.add 1) fun v101 =>
 C.pur (Instr.build ty_impl_Change #[(0, (.string v97)), (3, (.bool true)), (4, (.string v101))]) .agg fun y102 =>
 C.sem (Instr.buildSlice ty_sl_impl_Change 1 #[(0, (.agg y102))]) .slice fun y103 =>
 C.chk [⟨8, 1, (p99.add 1), .str, v101⟩, ⟨4, 1, (p95.add 0), .str, v97⟩] <|
 C.sem (Builtin.append_ #[ty_sl_impl_Change, ty_sl_impl_Change] ty_sl_impl_Change #[(.slice s2.2.2.a s2.2.2.n s2.2.2.c), (.slice y103.a y103.n y103.c)]) .slice fun y104 =>
 C.chk [⟨8, 1, (p99.add 1), .str, v101⟩, ⟨4, 1, (p95.add 0), .str, v97⟩] <|
 C.sl s2.2.1.a s2.2.1.n s2.2.1.c 2 (some 1) none none fun y106 =>
 ct2 [(.slice s2.1.a s2.1.n s2.1.c), (.slice y106.a y106.n y106.c), (.slice y104.a y104.n y104.c)]
 ) (
 C.draw <|
 C.ix s2.1.a s2.1.n 2 0 fun p16 =>
 C.ld .str 1 (p16.add 1) fun v18 =>
 C.ix s2.2.1.a s2.2.1.n 2 0 fun p20 =>
 C.ld .str 1 (p20.add 1) fun v22 =>
 C.pur (eqB .neq ty_string (.tmp 18) (.tmp 22) (.string v18) (.string v22)) .bool fun y23 =>
 cond y23 (
 C.draw <|
 C.ix s2.1.a s2.1.n 2 0 fun p26 =>
 C.ld .str 1 (p26.add 0) fun v28 =>
 C.ix s2.1.a s2.1.n 2 0 fun p30 =>
 C.ld .str 1 (p30.add 1) fun v32 =>
 C.ix s2.2.1.a s2.2.1.n 2 0 fun p34 =>
 C.ld .str 1 (p34.add 1) fun v36 =>
 C.pur (Instr.build ty_impl_Change #[(0, (.string v28)), (1, (.bool true)), (2, (.string v32)), (3, (.bool true)), (4, (.string v36))]) .agg fun y37 =>
 C.sem (Instr.buildSlice ty_sl_impl_Change 1 #[(0, (.agg y37))]) .slice fun y38 =>
 C.chk [⟨12, 1, (p34.add 1), .str, v36⟩, ⟨8, 1, (p30.add 1), .str, v32⟩, ⟨4, 1, (p26.add 0), .str, v28⟩] <|
 C.sem (Builtin.append_ #[ty_sl_impl_Change, ty_sl_impl_Change] ty_sl_impl_Change #[(.slice s2.2.2.a s2.2.2.n s2.2.2.c), (.slice y38.a y38.n y38.c)]) .slice fun y39 =>
 C.chk [⟨12, 1, (p34.add 1), .str, v36⟩, ⟨8, 1, (p30.add 1), .str, v32⟩, ⟨4, 1, (p26.add 0), .str, v28⟩] <|
 C.draw <|
 C.sl s2.1.a s2.1.n s2.1.c 2 (some 1) none none fun y41 =>
 C.sl s2.2.1.a s2.2.1.n s2.2.1.c 2 (some 1) none none fun y43 =>
 ct2 [(.slice y41.a y41.n y41.c), (.slice y43.a y43.n y43.c), (.slice y39.a y39.n y39.c)]
 ) (
 C.draw <|
 C.sl s2.1.a s2.1.n s2.1.c 2 (some 1) none none fun y41 =>
 C.sl s2.2.1.a s2.2.1.n s2.2.1.c 2 (some 1) none none fun y43 =>
 ct2 [(.slice y41.a y41.n y41.c), (.slice y43.a y43.n y43.c), (.slice s2.2.2.a s2.2.2.n s2.2.2.c)]
 )
 )
 ) fun jt =>
 C.draw <|
 cond ((s2.1.n : Int) == 0) (
 jt [(.bool true)]
 ) (
 C.ix s2.1.a s2.1.n 2 0 fun p84 =>
 C.ld .str 1 (p84.add 0) fun v86 =>
 C.ix s2.2.1.a s2.2.1.n 2 0 fun p88 =>
 C.ld .str 1 (p88.add 0) fun v90 =>
 C.pur (eqB .gtr ty_string (.tmp 86) (.tmp 90) (.string v86) (.string v90)) .bool fun y91 =>
 jt [(.bool y91)]
 )
 )
 ) fun jt =>
 C.draw <|
 cond ((s2.2.1.n : Int) == 0) (
 jt [(.bool true)]
 ) (
 cond (decide ((s2.1.n : Int) > 0)) (
 C.ix s2.1.a s2.1.n 2 0 fun p54 =>
 C.ld .str 1 (p54.add 0) fun v56 =>
 C.ix s2.2.1.a s2.2.1.n 2 0 fun p58 =>
 C.ld .str 1 (p58.add 0) fun v60 =>
 C.pur (eqB .lss ty_string (.tmp 56) (.tmp 60) (.string v56) (.string v60)) .bool fun y61 =>
 jt [(.bool y61)]
 ) (
 jt [(.bool false)]
 )
 )
 ) fun jt =>
 cond (decide ((s2.1.n : Int) > 0)) (
 jt []
 ) (
 cond (decide ((s2.2.1.n : Int) > 0)) (
 jt []
 ) (
 C.ret (.slice s2.2.2.a s2.2.2.n s2.2.2.c)
 )
 )
theorem impl_changes_eq (C : Comb) (x0 : Sl) (x1 : Sl) : fT C Tryz.prog ⟨[(2, [(0, .slice), (1, .slice), (5, .slice)])], [(42, []), (19, [(44, .bool)]), (28, [(78, .bool)])], [4, 7, 10], []⟩ n_impl_changes [(.slice x0.a x0.n x0.c), (.slice x1.a x1.n x1.c)] = impl_changes C x0 x1 := by kernel_rfl
theorem impl_changes_calls {R : Value → World → Prop} {w : World} (x0 : Sl) (x1 : Sl) (h : (impl_changes (real Tryz.prog R) x0 x1 : World → Prop) w) :
    Calls Tryz.prog n_impl_changes [(.slice x0.a x0.n x0.c), (.slice x1.a x1.n x1.c)].toArray w fun e w' => ∃ v, e = .returned v ∧ R v w' := fT_sound mixed ⟨[(2, [(0, .slice), (1, .slice), (5, .slice)])], [(42, []), (19, [(44, .bool)]), (28, [(78, .bool)])], [4, 7, 10], []⟩ (by rw [impl_changes_eq]; exact h)

def laws_eqCommit (C : Comb) (x0 : Array Value) (x1 : Array Value) : C.St :=
 C.new ty_impl_Commit (.agg x0) fun b2 =>
 C.new ty_impl_Commit (.agg x1) fun b3 =>
 C.ld .agg 32 ((Addr.mk b2 0 none).add 0) fun v6 =>
 C.ld .agg 32 ((Addr.mk b3 0 none).add 0) fun v8 =>
 C.call n_laws_eqKey [(.agg v6), (.agg v8)] [.bool] fun r9 =>
 cond (!r9) (
 C.ret (.bool false)
 ) (
 C.ld .slice 1 ((Addr.mk b2 0 none).add 32) fun v12 =>
 C.ld .slice 1 ((Addr.mk b3 0 none).add 32) fun v14 =>
 C.call n_laws_eqKeyS [(.slice v12.a v12.n v12.c), (.slice v14.a v14.n v14.c)] [.bool] fun r15 =>
 cond (!r15) (
 C.ret (.bool false)
 ) (
 C.ld (.int .i64) 1 ((Addr.mk b2 0 none).add 33) fun v18 =>
 C.ld (.int .i64) 1 ((Addr.mk b3 0 none).add 33) fun v20 =>
 cond (v18 != v20) (
 C.ret (.bool false)
 ) (
 C.ld .str 1 ((Addr.mk b2 0 none).add 34) fun v23 =>
 C.ld .str 1 ((Addr.mk b3 0 none).add 34) fun v25 =>
 C.pur (eqB .neq ty_string (.tmp 23) (.tmp 25) (.string v23) (.string v25)) .bool fun y26 =>
 cond y26 (
 C.ret (.bool false)
 ) (
 C.ret (.bool true)
 )
 )
 )
 )
theorem laws_eqCommit_eq (C : Comb) (x0 : Array Value) (x1 : Array Value) : fT C Tryz.prog ⟨[], [], [], []⟩ n_laws_eqCommit [(.agg x0), (.agg x1)] = laws_eqCommit C x0 x1 := by kernel_rfl
theorem laws_eqCommit_calls {R : Value → World → Prop} {w : World} (x0 : Array Value) (x1 : Array Value) (h : (laws_eqCommit (real Tryz.prog R) x0 x1 : World → Prop) w) :
    Calls Tryz.prog n_laws_eqCommit [(.agg x0), (.agg x1)].toArray w fun e w' => ∃ v, e = .returned v ∧ R v w' := fT_sound mixed ⟨[], [], [], []⟩ (by rw [laws_eqCommit_eq]; exact h)

def impl_treeOf (C : Comb) (x0 : Sl) : C.St :=
 C.sem (Instr.buildSlice ty_sl_impl_Key 0 #[]) .slice fun y6 =>
 C.loop (TL [.slice, (.int .i64)]) (embL [.slice, (.int .i64)]) [(.slice y6.a y6.n y6.c), (.int .i64 0)] fun s2 ct2 => C.any fun _ =>
 cond (decide (s2.2 < (x0.n : Int))) (
 C.ix x0.a x0.n 2 s2.2 fun p11 =>
 C.ld .agg 2 p11 fun v12 =>
 C.new ty_impl_Entry (.agg (#[(.string (⟨#[]⟩ : ByteArray)), (.string (⟨#[]⟩ : ByteArray))])) fun b5 =>
 C.st 2 (Addr.mk b5 0 none) (.agg v12) <|
 C.ld .str 1 ((Addr.mk b5 0 none).add 0) fun v15 =>
 C.sem (convert ty_string ty_sl_uint8 (.string v15)) .slice fun y16 =>
 C.call n_impl_hash [(.int .u8 4), (.slice y16.a y16.n y16.c)] [.agg] fun r17 =>
 C.sem (Instr.buildSlice ty_sl_impl_Key 1 #[(0, (.agg r17))]) .slice fun y18 =>
 C.sem (Builtin.append_ #[ty_sl_impl_Key, ty_sl_impl_Key] ty_sl_impl_Key #[(.slice s2.1.a s2.1.n s2.1.c), (.slice y18.a y18.n y18.c)]) .slice fun y19 =>
 ct2 [(.slice y19.a y19.n y19.c), (.int .i64 (IntKind.wrap .i64 (s2.2 + 1)))]
 ) (
 C.call n_impl_grow [(.slice x0.a x0.n x0.c), (.slice s2.1.a s2.1.n s2.1.c)] [.optr] fun r23 =>
 C.ret (.pointer r23)
 )
theorem impl_treeOf_eq (C : Comb) (x0 : Sl) : fT C Tryz.prog ⟨[(3, [(3, .slice), (9, (.int .i64))])], [], [], []⟩ n_impl_treeOf [(.slice x0.a x0.n x0.c)] = impl_treeOf C x0 := by kernel_rfl
theorem impl_treeOf_calls {R : Value → World → Prop} {w : World} (x0 : Sl) (h : (impl_treeOf (real Tryz.prog R) x0 : World → Prop) w) :
    Calls Tryz.prog n_impl_treeOf [(.slice x0.a x0.n x0.c)].toArray w fun e w' => ∃ v, e = .returned v ∧ R v w' := fT_sound mixed ⟨[(3, [(3, .slice), (9, (.int .i64))])], [], [], []⟩ (by rw [impl_treeOf_eq]; exact h)

def ptr_impl_tree_key (C : Comb) (x0 : Option Addr) : C.St :=
 C.new ty_impl_Key (.agg (Array.replicate 32 (.int .u8 0))) fun b2 =>
 C.pur (eqB .eql ty_ptr_impl_tree (.tmp 3) (.const (.pointer none)) (.pointer x0) (.pointer none)) .bool fun y4 =>
 cond y4 (
 C.call n_impl_EmptyMapKey [] [.agg] fun r5 =>
 C.st 32 (Addr.mk b2 0 none) (.agg r5) <|
 C.ld .agg 32 (Addr.mk b2 0 none) fun z4 =>
 C.ret (.agg z4)
 ) (
 dpT C x0 fun a5 =>
 C.ld .agg 66 (a5.add 0) fun v9 =>
 C.call n_impl_MapNode_key [(.agg v9)] [.agg] fun r10 =>
 C.st 32 (Addr.mk b2 0 none) (.agg r10) <|
 C.ld .agg 32 (Addr.mk b2 0 none) fun z8 =>
 C.ret (.agg z8)
 )
theorem ptr_impl_tree_key_eq (C : Comb) (x0 : Option Addr) : fT C Tryz.prog ⟨[], [], [], []⟩ n_ptr_impl_tree_key [(.pointer x0)] = ptr_impl_tree_key C x0 := by kernel_rfl
theorem ptr_impl_tree_key_calls {R : Value → World → Prop} {w : World} (x0 : Option Addr) (h : (ptr_impl_tree_key (real Tryz.prog R) x0 : World → Prop) w) :
    Calls Tryz.prog n_ptr_impl_tree_key [(.pointer x0)].toArray w fun e w' => ∃ v, e = .returned v ∧ R v w' := fT_sound mixed ⟨[], [], [], []⟩ (by rw [ptr_impl_tree_key_eq]; exact h)

def ptr_impl_ledger_number (C : Comb) (x0 : Addr) (x1 : Sl) : C.St :=
 C.loop (TL [(.int .i64), (.int .i64)]) (embL [(.int .i64), (.int .i64)]) [(.int .i64 0), (.int .i64 0)] fun s1 ct1 => C.any fun _ =>
 cond (decide (s1.2 < (x1.n : Int))) (
 C.ix x1.a x1.n 32 s1.2 fun p15 =>
 C.ld .agg 32 p15 fun v16 =>
 C.new ty_impl_Key (.agg (Array.replicate 32 (.int .u8 0))) fun b8 =>
 C.st 32 (Addr.mk b8 0 none) (.agg v16) <|
 C.ld .agg 32 (Addr.mk b8 0 none) fun v19 =>
 C.call n_ptr_impl_ledger_find [(.pointer (some x0)), (.agg v19)] [(.int .i64), .bool] fun r20 =>
 cond (!r20.2) (
 C.ret (.tuple #[(.int .i64 0), (.bool false)])
 ) (
 C.ld .slice 1 ((x0.add 0).add 0) fun v30 =>
 C.ix v30.a v30.n 35 r20.1 fun p32 =>
 C.ld (.int .i64) 1 (p32.add 33) fun v34 =>
 C.sem (Builtin.max_ #[ty_int64, ty_int64] ty_int64 #[(.int .i64 s1.1), (.int .i64 (IntKind.wrap .i64 (v34 + 1)))]) (.int .i64) fun y36 =>
 ct1 [(.int .i64 y36), (.int .i64 (IntKind.wrap .i64 (s1.2 + 1)))]
 )
 ) (
 C.ret (.tuple #[(.int .i64 s1.1), (.bool true)])
 )
theorem ptr_impl_ledger_number_eq (C : Comb) (x0 : Addr) (x1 : Sl) : fT C Tryz.prog ⟨[(3, [(6, (.int .i64)), (13, (.int .i64))])], [], [], []⟩ n_ptr_impl_ledger_number [(.pointer (some x0)), (.slice x1.a x1.n x1.c)] = ptr_impl_ledger_number C x0 x1 := by kernel_rfl
theorem ptr_impl_ledger_number_calls {R : Value → World → Prop} {w : World} (x0 : Addr) (x1 : Sl) (h : (ptr_impl_ledger_number (real Tryz.prog R) x0 x1 : World → Prop) w) :
    Calls Tryz.prog n_ptr_impl_ledger_number [(.pointer (some x0)), (.slice x1.a x1.n x1.c)].toArray w fun e w' => ∃ v, e = .returned v ∧ R v w' := fT_sound mixed ⟨[(3, [(6, (.int .i64)), (13, (.int .i64))])], [], [], []⟩ (by rw [ptr_impl_ledger_number_eq]; exact h)

def impl_hash (C : Comb) (x0 : Int) (x1 : Sl) : C.St :=
 C.new ty_impl_Key (.agg (Array.replicate 32 (.int .u8 0))) fun b4 =>
 C.call n_impl_size_byte [(.slice x1.a x1.n x1.c)] [(.int .i64)] fun r10 =>
 C.call n_impl_padding [(.int .i64 r10)] [.slice] fun r11 =>
 C.sem (Instr.buildSlice ty_sl_sl_uint8 2 #[(0, (.slice x1.a x1.n x1.c)), (1, (.slice r11.a r11.n r11.c))]) .slice fun y12 =>
 C.call n_slices_Concat_sl_byte_byte [(.slice y12.a y12.n y12.c)] [.slice] fun r13 =>
 C.call n_impl_blocks [(.slice r13.a r13.n r13.c)] [.slice, .slice] fun r14 =>
 C.call n_impl_StartState [(.int .u8 x0)] [.agg] fun r18 =>
 C.call n_impl_mixed [(.agg r18), (.slice r14.1.a r14.1.n r14.1.c)] [.agg] fun r20 =>
 C.call n_impl_keyOf [(.agg r20)] [.agg] fun r21 =>
 C.st 32 (Addr.mk b4 0 none) (.agg r21) <|
 C.ld .agg 32 (Addr.mk b4 0 none) fun z10 =>
 C.ret (.agg z10)
theorem impl_hash_eq (C : Comb) (x0 : Int) (x1 : Sl) : fT C Tryz.prog ⟨[], [], [], []⟩ n_impl_hash [(.int .u8 x0), (.slice x1.a x1.n x1.c)] = impl_hash C x0 x1 := by kernel_rfl
theorem impl_hash_calls {R : Value → World → Prop} {w : World} (x0 : Int) (x1 : Sl) (h : (impl_hash (real Tryz.prog R) x0 x1 : World → Prop) w) :
    Calls Tryz.prog n_impl_hash [(.int .u8 x0), (.slice x1.a x1.n x1.c)].toArray w fun e w' => ∃ v, e = .returned v ∧ R v w' := fT_sound mixed ⟨[], [], [], []⟩ (by rw [impl_hash_eq]; exact h)

def spec_l01End (C : Comb) (x0 : Array Value) (x1 : Sl) (x2 : Int) : C.St :=
 C.new ty_arr8_uint32 (.agg x0) fun b3 =>
 C.new ty_impl_Key (.agg (Array.replicate 32 (.int .u8 0))) fun b6 =>
 C.call n_spec_l01Padded [(.slice x1.a x1.n x1.c), (.int .i64 x2)] [.slice] fun r13 =>
 C.loop (TL [(.int .i64)]) (embL [(.int .i64)]) [(.int .i64 0)] fun s4 ct4 => C.any fun _ =>
 cond (decide (s4 < (r13.n : Int))) (
 C.draw <|
 C.ld .agg 8 (Addr.mk b3 0 none) fun v20 =>
 C.call n_spec_l01Block [(.slice r13.a r13.n r13.c), (.int .i64 s4)] [.agg] fun r23 =>
 C.chk [⟨0, 8, (Addr.mk b3 0 none), .agg, v20⟩] <|
 C.call n_spec_l01Mix [(.agg v20), (.agg r23)] [.agg] fun r24 =>
 C.st 8 (Addr.mk b3 0 none) (.agg r24) <|
 ct4 [(.int .i64 (IntKind.wrap .i64 (s4 + 32)))]
 ) (
 C.new ty_impl_Key (.agg (Array.replicate 32 (.int .u8 0))) fun b9 =>
 C.st 32 (Addr.mk b9 0 none) (.agg (Array.replicate 32 (.int .u8 0))) <|
 C.loop (TL [(.int .i64)]) (embL [(.int .i64)]) [(.int .i64 0)] fun s9 ct9 => C.any fun _ =>
 cond (decide (s9 < 32)) (
 C.ix (some (Addr.mk b3 0 none)) 8 1 (IntKind.wrap .i64 (Int.tdiv s9 4)) fun p33 =>
 C.ld (.int .u32) 1 p33 fun v34 =>
 C.pur (eqB .shr ty_uint32 (.tmp 34) (.tmp 38) (.int .u32 v34) (.int .u64 (IntKind.wrap .u64 ((IntKind.wrap .i64 (8 * (Int.tmod s9 4))))))) (.int .u32) fun y39 =>
 C.ix (some (Addr.mk b9 0 none)) 32 1 s9 fun p41 =>
 C.st 1 p41 (.int .u8 (IntKind.wrap .u8 (y39))) <|
 ct9 [(.int .i64 (IntKind.wrap .i64 (s9 + 1)))]
 ) (
 C.ld .agg 32 (Addr.mk b9 0 none) fun v42 =>
 C.st 32 (Addr.mk b6 0 none) (.agg v42) <|
 C.ld .agg 32 (Addr.mk b6 0 none) fun z15 =>
 C.ret (.agg z15)
 )
 )
theorem spec_l01End_eq (C : Comb) (x0 : Array Value) (x1 : Sl) (x2 : Int) : fT C Tryz.prog ⟨[(3, [(8, (.int .i64))]), (8, [(10, (.int .i64))])], [], [5], []⟩ n_spec_l01End [(.agg x0), (.slice x1.a x1.n x1.c), (.int .i64 x2)] = spec_l01End C x0 x1 x2 := by kernel_rfl
theorem spec_l01End_calls {R : Value → World → Prop} {w : World} (x0 : Array Value) (x1 : Sl) (x2 : Int) (h : (spec_l01End (real Tryz.prog R) x0 x1 x2 : World → Prop) w) :
    Calls Tryz.prog n_spec_l01End [(.agg x0), (.slice x1.a x1.n x1.c), (.int .i64 x2)].toArray w fun e w' => ∃ v, e = .returned v ∧ R v w' := fT_sound mixed ⟨[(3, [(8, (.int .i64))]), (8, [(10, (.int .i64))])], [], [5], []⟩ (by rw [spec_l01End_eq]; exact h)

def spec_l01Start (C : Comb) (x0 : Int) : C.St :=
 C.new ty_arr8_uint32 (.agg (Array.replicate 8 (.int .u32 0))) fun b2 =>
 C.new ty_arr8_uint32 (.agg (Array.replicate 8 (.int .u32 0))) fun b3 =>
 C.st 8 (Addr.mk b3 0 none) (.agg (Array.replicate 8 (.int .u32 0))) <|
 C.loop (TL [(.int .i64)]) (embL [(.int .i64)]) [(.int .i64 0)] fun s3 ct3 => C.any fun _ =>
 cond (decide (s3 < 8)) (
 C.ix (some (Addr.mk b3 0 none)) 8 1 s3 fun p18 =>
 C.st 1 p18 (.int .u32 (IntKind.wrap .u32 ((IntKind.wrap .u32 (16777619 * (IntKind.wrap .u32 ((IntKind.wrap .i64 (s3 + 1)))))) + (IntKind.wrap .u32 (x0))))) <|
 ct3 [(.int .i64 (IntKind.wrap .i64 (s3 + 1)))]
 ) (
 C.ld .agg 8 (Addr.mk b3 0 none) fun v19 =>
 C.st 8 (Addr.mk b2 0 none) (.agg v19) <|
 C.ld .agg 8 (Addr.mk b2 0 none) fun z6 =>
 C.ret (.agg z6)
 )
theorem spec_l01Start_eq (C : Comb) (x0 : Int) : fT C Tryz.prog ⟨[(3, [(4, (.int .i64))])], [], [], []⟩ n_spec_l01Start [(.int .u8 x0)] = spec_l01Start C x0 := by kernel_rfl
theorem spec_l01Start_calls {R : Value → World → Prop} {w : World} (x0 : Int) (h : (spec_l01Start (real Tryz.prog R) x0 : World → Prop) w) :
    Calls Tryz.prog n_spec_l01Start [(.int .u8 x0)].toArray w fun e w' => ∃ v, e = .returned v ∧ R v w' := fT_sound mixed ⟨[(3, [(4, (.int .i64))])], [], [], []⟩ (by rw [spec_l01Start_eq]; exact h)

def impl_ValidEntry (C : Comb) (x0 : Array Value) : C.St :=
 C.new ty_impl_Entry (.agg x0) fun b1 =>
 C.ld .str 1 ((Addr.mk b1 0 none).add 0) fun v4 =>
 C.call n_impl_isName [(.string v4)] [.bool] fun r5 =>
 cond r5 (
 C.ld .str 1 ((Addr.mk b1 0 none).add 1) fun v8 =>
 C.ret (.bool (decide ((v8.size : Int) ≤ 64)))
 ) (
 C.ret (.bool false)
 )
theorem impl_ValidEntry_eq (C : Comb) (x0 : Array Value) : fT C Tryz.prog ⟨[], [], [], []⟩ n_impl_ValidEntry [(.agg x0)] = impl_ValidEntry C x0 := by kernel_rfl
theorem impl_ValidEntry_calls {R : Value → World → Prop} {w : World} (x0 : Array Value) (h : (impl_ValidEntry (real Tryz.prog R) x0 : World → Prop) w) :
    Calls Tryz.prog n_impl_ValidEntry [(.agg x0)].toArray w fun e w' => ∃ v, e = .returned v ∧ R v w' := fT_sound mixed ⟨[], [], [], []⟩ (by rw [impl_ValidEntry_eq]; exact h)

def impl_Book_copied (C : Comb) (x0 : Array Value) : C.St :=
 C.new ty_impl_Book (.agg x0) fun b1 =>
 C.new ty_impl_Book (.agg (#[(.slice none 0 0), (.slice none 0 0)])) fun b2 =>
 C.pur (Instr.build ty_impl_Book #[]) .agg fun y8 =>
 C.new ty_impl_Book (.agg (#[(.slice none 0 0), (.slice none 0 0)])) fun b3 =>
 C.st 2 (Addr.mk b3 0 none) (.agg y8) <|
 C.ld .slice 1 ((Addr.mk b1 0 none).add 0) fun v10 =>
 C.loop (TL [(.int .i64)]) (embL [(.int .i64)]) [(.int .i64 0)] fun s6 ct6 => C.any fun _ =>
 cond (decide (s6 < (v10.n : Int))) (
 C.ix v10.a v10.n 35 s6 fun p14 =>
 C.ld .agg 35 p14 fun v15 =>
 C.new ty_impl_Commit (.agg (#[(.int .u8 0), (.int .u8 0), (.int .u8 0), (.int .u8 0), (.int .u8 0), (.int .u8 0), (.int .u8 0), (.int .u8 0), (.int .u8 0), (.int .u8 0), (.int .u8 0), (.int .u8 0), (.int .u8 0), (.int .u8 0), (.int .u8 0), (.int .u8 0), (.int .u8 0), (.int .u8 0), (.int .u8 0), (.int .u8 0), (.int .u8 0), (.int .u8 0), (.int .u8 0), (.int .u8 0), (.int .u8 0), (.int .u8 0), (.int .u8 0), (.int .u8 0), (.int .u8 0), (.int .u8 0), (.int .u8 0), (.int .u8 0), (.slice none 0 0), (.int .i64 0), (.string (⟨#[]⟩ : ByteArray))])) fun b5 =>
 C.st 35 (Addr.mk b5 0 none) (.agg v15) <|
 C.ld .slice 1 ((Addr.mk b5 0 none).add 32) fun v17 =>
 C.call n_slices_Clone_sl_impl_Key_impl_Key [(.slice v17.a v17.n v17.c)] [.slice] fun r18 =>
 C.st 1 ((Addr.mk b5 0 none).add 32) (.slice r18.a r18.n r18.c) <|
 C.ld .slice 1 ((Addr.mk b3 0 none).add 0) fun v21 =>
 C.ld .agg 35 (Addr.mk b5 0 none) fun v22 =>
 C.sem (Instr.buildSlice ty_sl_impl_Commit 1 #[(0, (.agg v22))]) .slice fun y23 =>
 C.sem (Builtin.append_ #[ty_sl_impl_Commit, ty_sl_impl_Commit] ty_sl_impl_Commit #[(.slice v21.a v21.n v21.c), (.slice y23.a y23.n y23.c)]) .slice fun y24 =>
 C.st 1 ((Addr.mk b3 0 none).add 0) (.slice y24.a y24.n y24.c) <|
 ct6 [(.int .i64 (IntKind.wrap .i64 (s6 + 1)))]
 ) (
 C.ld .slice 1 ((Addr.mk b1 0 none).add 1) fun v28 =>
 C.loop (TL [(.int .i64)]) (embL [(.int .i64)]) [(.int .i64 0)] fun s17 ct17 => C.any fun _ =>
 cond (decide (s17 < (v28.n : Int))) (
 C.ix v28.a v28.n 1 s17 fun p32 =>
 C.ld .slice 1 p32 fun v33 =>
 C.draw <|
 C.ld .slice 1 ((Addr.mk b3 0 none).add 1) fun v35 =>
 C.call n_slices_Clone_sl_impl_Entry_impl_Entry [(.slice v33.a v33.n v33.c)] [.slice] fun r37 =>
 C.chk [⟨1, 1, ((Addr.mk b3 0 none).add 1), .slice, v35⟩] <|
 C.sem (Instr.buildSlice ty_sl_sl_impl_Entry 1 #[(0, (.slice r37.a r37.n r37.c))]) .slice fun y38 =>
 C.chk [⟨1, 1, ((Addr.mk b3 0 none).add 1), .slice, v35⟩] <|
 C.sem (Builtin.append_ #[ty_sl_sl_impl_Entry, ty_sl_sl_impl_Entry] ty_sl_sl_impl_Entry #[(.slice v35.a v35.n v35.c), (.slice y38.a y38.n y38.c)]) .slice fun y39 =>
 C.st 1 ((Addr.mk b3 0 none).add 1) (.slice y39.a y39.n y39.c) <|
 ct17 [(.int .i64 (IntKind.wrap .i64 (s17 + 1)))]
 ) (
 C.ld .agg 2 (Addr.mk b3 0 none) fun v42 =>
 C.st 2 (Addr.mk b2 0 none) (.agg v42) <|
 C.ld .agg 2 (Addr.mk b2 0 none) fun z25 =>
 C.ret (.agg z25)
 )
 )
theorem impl_Book_copied_eq (C : Comb) (x0 : Array Value) : fT C Tryz.prog ⟨[(3, [(12, (.int .i64))]), (9, [(30, (.int .i64))])], [], [11], []⟩ n_impl_Book_copied [(.agg x0)] = impl_Book_copied C x0 := by kernel_rfl
theorem impl_Book_copied_calls {R : Value → World → Prop} {w : World} (x0 : Array Value) (h : (impl_Book_copied (real Tryz.prog R) x0 : World → Prop) w) :
    Calls Tryz.prog n_impl_Book_copied [(.agg x0)].toArray w fun e w' => ∃ v, e = .returned v ∧ R v w' := fT_sound mixed ⟨[(3, [(12, (.int .i64))]), (9, [(30, (.int .i64))])], [], [11], []⟩ (by rw [impl_Book_copied_eq]; exact h)

def spec_MapKey (C : Comb) (x0 : Sl) : C.St :=
 C.new ty_impl_Key (.agg (Array.replicate 32 (.int .u8 0))) fun b2 =>
 C.call n_spec_l04Ok [(.slice x0.a x0.n x0.c)] [.bool] fun r7 =>
 cond (!r7) (
 C.st 32 (Addr.mk b2 0 none) (.agg (Array.replicate 32 (.int .u8 0))) <|
 C.ld .agg 32 (Addr.mk b2 0 none) fun z3 =>
 C.ret (.tuple #[(.agg z3), (.int .i64 1)])
 ) (
 C.call n_spec_l04Nodes [(.slice x0.a x0.n x0.c)] [.slice, .agg] fun r12 =>
 C.new ty_impl_Key (.agg (Array.replicate 32 (.int .u8 0))) fun b5 =>
 C.st 32 (Addr.mk b5 0 none) (.agg r12.2) <|
 C.ld .agg 32 (Addr.mk b5 0 none) fun v15 =>
 C.st 32 (Addr.mk b2 0 none) (.agg v15) <|
 C.ld .agg 32 (Addr.mk b2 0 none) fun z7 =>
 C.ret (.tuple #[(.agg z7), (.int .i64 0)])
 )
theorem spec_MapKey_eq (C : Comb) (x0 : Sl) : fT C Tryz.prog ⟨[], [], [], []⟩ n_spec_MapKey [(.slice x0.a x0.n x0.c)] = spec_MapKey C x0 := by kernel_rfl
theorem spec_MapKey_calls {R : Value → World → Prop} {w : World} (x0 : Sl) (h : (spec_MapKey (real Tryz.prog R) x0 : World → Prop) w) :
    Calls Tryz.prog n_spec_MapKey [(.slice x0.a x0.n x0.c)].toArray w fun e w' => ∃ v, e = .returned v ∧ R v w' := fT_sound mixed ⟨[], [], [], []⟩ (by rw [spec_MapKey_eq]; exact h)

def spec_l07Number (C : Comb) (x0 : Addr) (x1 : Sl) (x2 : Sl) : C.St :=
 C.loop (TL [(.int .i64), (.int .i64)]) (embL [(.int .i64), (.int .i64)]) [(.int .i64 0), (.int .i64 0)] fun s1 ct1 => C.any fun _ =>
 cond (decide (s1.2 < (x2.n : Int))) (
 C.draw <|
 C.ld .slice 1 (x0.add 0) fun v19 =>
 C.ix x2.a x2.n 32 s1.2 fun p23 =>
 C.ld .agg 32 p23 fun v24 =>
 C.call n_spec_l07Find [(.slice x1.a x1.n x1.c), (.agg v24)] [(.int .i64)] fun r25 =>
 C.chk [⟨4, 1, (x0.add 0), .slice, v19⟩] <|
 C.ix v19.a v19.n 35 r25 fun p26 =>
 C.ld (.int .i64) 1 (p26.add 33) fun v28 =>
 C.callP n_spec_l00Max [(.int .i64 s1.1), (.int .i64 (IntKind.wrap .i64 (v28 + 1)))] [(.int .i64)] fun r30 =>
 ct1 [(.int .i64 r30), (.int .i64 (IntKind.wrap .i64 (s1.2 + 1)))]
 ) (
 C.ret (.int .i64 s1.1)
 )
theorem spec_l07Number_eq (C : Comb) (x0 : Addr) (x1 : Sl) (x2 : Sl) : fT C Tryz.prog ⟨[(3, [(7, (.int .i64)), (8, (.int .i64))])], [], [5], [302]⟩ n_spec_l07Number [(.pointer (some x0)), (.slice x1.a x1.n x1.c), (.slice x2.a x2.n x2.c)] = spec_l07Number C x0 x1 x2 := by kernel_rfl
theorem spec_l07Number_calls {R : Value → World → Prop} {w : World} (x0 : Addr) (x1 : Sl) (x2 : Sl) (h : (spec_l07Number (real Tryz.prog R) x0 x1 x2 : World → Prop) w) :
    Calls Tryz.prog n_spec_l07Number [(.pointer (some x0)), (.slice x1.a x1.n x1.c), (.slice x2.a x2.n x2.c)].toArray w fun e w' => ∃ v, e = .returned v ∧ R v w' := fT_sound mixed ⟨[(3, [(7, (.int .i64)), (8, (.int .i64))])], [], [5], [302]⟩ (by rw [spec_l07Number_eq]; exact h)

def spec_l04Ok (C : Comb) (x0 : Sl) : C.St :=
 C.loop (TL [(.int .i64)]) (embL [(.int .i64)]) [(.int .i64 0)] fun s1 ct1 => C.any fun _ =>
 cond (decide (s1 < (x0.n : Int))) (
 C.draw <|
 C.ix x0.a x0.n 2 s1 fun p12 =>
 C.callQ n_spec_l04Entry [(.pointer (some p12))] [.bool] fun r13 =>
 cond (!r13) (
 C.ret (.bool false)
 ) (
 cond (decide (s1 > 0)) (
 C.ix x0.a x0.n 2 (IntKind.wrap .i64 (s1 - 1)) fun p22 =>
 C.ld .str 1 (p22.add 0) fun v24 =>
 C.ix x0.a x0.n 2 s1 fun p27 =>
 C.ld .str 1 (p27.add 0) fun v29 =>
 C.pur (eqB .geq ty_string (.tmp 24) (.tmp 29) (.string v24) (.string v29)) .bool fun y30 =>
 cond y30 (
 C.ret (.bool false)
 ) (
 ct1 [(.int .i64 (IntKind.wrap .i64 (s1 + 1)))]
 )
 ) (
 ct1 [(.int .i64 (IntKind.wrap .i64 (s1 + 1)))]
 )
 )
 ) (
 C.ret (.bool (decide ((x0.n : Int) ≤ 64)))
 )
theorem spec_l04Ok_eq (C : Comb) (x0 : Sl) : fT C Tryz.prog ⟨[(2, [(3, (.int .i64))])], [], [], []⟩ n_spec_l04Ok [(.slice x0.a x0.n x0.c)] = spec_l04Ok C x0 := by kernel_rfl
theorem spec_l04Ok_calls {R : Value → World → Prop} {w : World} (x0 : Sl) (h : (spec_l04Ok (real Tryz.prog R) x0 : World → Prop) w) :
    Calls Tryz.prog n_spec_l04Ok [(.slice x0.a x0.n x0.c)].toArray w fun e w' => ∃ v, e = .returned v ∧ R v w' := fT_sound mixed ⟨[(2, [(3, (.int .i64))])], [], [], []⟩ (by rw [spec_l04Ok_eq]; exact h)

def spec_l07Copy (C : Comb) (x0 : Addr) : C.St :=
 C.new ty_impl_Book (.agg (#[(.slice none 0 0), (.slice none 0 0)])) fun b2 =>
 C.pur (Instr.build ty_impl_Book #[]) .agg fun y7 =>
 C.new ty_impl_Book (.agg (#[(.slice none 0 0), (.slice none 0 0)])) fun b3 =>
 C.st 2 (Addr.mk b3 0 none) (.agg y7) <|
 C.loop (TL [(.int .i64)]) (embL [(.int .i64)]) [(.int .i64 0)] fun s4 ct4 => C.any fun _ =>
 C.ld .slice 1 (x0.add 0) fun v12 =>
 cond (decide (s4 < (v12.n : Int))) (
 C.ld .slice 1 (x0.add 0) fun v20 =>
 C.ix v20.a v20.n 35 s4 fun p22 =>
 C.ld .agg 35 p22 fun v23 =>
 C.new ty_impl_Commit (.agg (#[(.int .u8 0), (.int .u8 0), (.int .u8 0), (.int .u8 0), (.int .u8 0), (.int .u8 0), (.int .u8 0), (.int .u8 0), (.int .u8 0), (.int .u8 0), (.int .u8 0), (.int .u8 0), (.int .u8 0), (.int .u8 0), (.int .u8 0), (.int .u8 0), (.int .u8 0), (.int .u8 0), (.int .u8 0), (.int .u8 0), (.int .u8 0), (.int .u8 0), (.int .u8 0), (.int .u8 0), (.int .u8 0), (.int .u8 0), (.int .u8 0), (.int .u8 0), (.int .u8 0), (.int .u8 0), (.int .u8 0), (.int .u8 0), (.slice none 0 0), (.int .i64 0), (.string (⟨#[]⟩ : ByteArray))])) fun b5 =>
 C.st 35 (Addr.mk b5 0 none) (.agg v23) <|
 C.sem (Instr.buildSlice ty_sl_impl_Key 0 #[]) .slice fun y24 =>
 C.ld .slice 1 ((Addr.mk b5 0 none).add 32) fun v26 =>
 C.sem (Builtin.append_ #[ty_sl_impl_Key, ty_sl_impl_Key] ty_sl_impl_Key #[(.slice y24.a y24.n y24.c), (.slice v26.a v26.n v26.c)]) .slice fun y27 =>
 C.st 1 ((Addr.mk b5 0 none).add 32) (.slice y27.a y27.n y27.c) <|
 C.ld .slice 1 ((Addr.mk b3 0 none).add 0) fun v30 =>
 C.ld .agg 35 (Addr.mk b5 0 none) fun v31 =>
 C.sem (Instr.buildSlice ty_sl_impl_Commit 1 #[(0, (.agg v31))]) .slice fun y32 =>
 C.sem (Builtin.append_ #[ty_sl_impl_Commit, ty_sl_impl_Commit] ty_sl_impl_Commit #[(.slice v30.a v30.n v30.c), (.slice y32.a y32.n y32.c)]) .slice fun y33 =>
 C.st 1 ((Addr.mk b3 0 none).add 0) (.slice y33.a y33.n y33.c) <|
 ct4 [(.int .i64 (IntKind.wrap .i64 (s4 + 1)))]
 ) (
 C.loop (TL [(.int .i64)]) (embL [(.int .i64)]) [(.int .i64 0)] fun s17 ct17 => C.any fun _ =>
 C.ld .slice 1 (x0.add 1) fun v39 =>
 cond (decide (s17 < (v39.n : Int))) (
 C.draw <|
 C.ld .slice 1 ((Addr.mk b3 0 none).add 1) fun v45 =>
 C.ld .slice 1 (x0.add 1) fun v50 =>
 C.ix v50.a v50.n 1 s17 fun p52 =>
 C.ld .slice 1 p52 fun v53 =>
 C.sem (Instr.buildSlice ty_sl_impl_Entry 0 #[]) .slice fun y46 =>
 C.chk [⟨9, 1, p52, .slice, v53⟩, ⟨6, 1, (x0.add 1), .slice, v50⟩, ⟨1, 1, ((Addr.mk b3 0 none).add 1), .slice, v45⟩] <|
 C.sem (Builtin.append_ #[ty_sl_impl_Entry, ty_sl_impl_Entry] ty_sl_impl_Entry #[(.slice y46.a y46.n y46.c), (.slice v53.a v53.n v53.c)]) .slice fun y54 =>
 C.chk [⟨6, 1, (x0.add 1), .slice, v50⟩, ⟨1, 1, ((Addr.mk b3 0 none).add 1), .slice, v45⟩] <|
 C.sem (Instr.buildSlice ty_sl_sl_impl_Entry 1 #[(0, (.slice y54.a y54.n y54.c))]) .slice fun y55 =>
 C.chk [⟨6, 1, (x0.add 1), .slice, v50⟩, ⟨1, 1, ((Addr.mk b3 0 none).add 1), .slice, v45⟩] <|
 C.sem (Builtin.append_ #[ty_sl_sl_impl_Entry, ty_sl_sl_impl_Entry] ty_sl_sl_impl_Entry #[(.slice v45.a v45.n v45.c), (.slice y55.a y55.n y55.c)]) .slice fun y56 =>
 C.chk [⟨6, 1, (x0.add 1), .slice, v50⟩] <|
 C.st 1 ((Addr.mk b3 0 none).add 1) (.slice y56.a y56.n y56.c) <|
 ct17 [(.int .i64 (IntKind.wrap .i64 (s17 + 1)))]
 ) (
 C.ld .agg 2 (Addr.mk b3 0 none) fun v58 =>
 C.st 2 (Addr.mk b2 0 none) (.agg v58) <|
 C.ld .agg 2 (Addr.mk b2 0 none) fun z28 =>
 C.ret (.agg z28)
 )
 )
theorem spec_l07Copy_eq (C : Comb) (x0 : Addr) : fT C Tryz.prog ⟨[(3, [(4, (.int .i64))]), (9, [(6, (.int .i64))])], [], [11], []⟩ n_spec_l07Copy [(.pointer (some x0))] = spec_l07Copy C x0 := by kernel_rfl
theorem spec_l07Copy_calls {R : Value → World → Prop} {w : World} (x0 : Addr) (h : (spec_l07Copy (real Tryz.prog R) x0 : World → Prop) w) :
    Calls Tryz.prog n_spec_l07Copy [(.pointer (some x0))].toArray w fun e w' => ∃ v, e = .returned v ∧ R v w' := fT_sound mixed ⟨[(3, [(4, (.int .i64))]), (9, [(6, (.int .i64))])], [], [11], []⟩ (by rw [spec_l07Copy_eq]; exact h)

def spec_l01Xor (C : Comb) (x0 : Array Value) (x1 : Array Value) : C.St :=
 C.new ty_impl_Key (.agg x0) fun b2 =>
 C.new ty_impl_Key (.agg x1) fun b3 =>
 C.new ty_impl_Key (.agg (Array.replicate 32 (.int .u8 0))) fun b4 =>
 C.loop (TL [(.int .i64)]) (embL [(.int .i64)]) [(.int .i64 0)] fun s4 ct4 => C.any fun _ =>
 cond (decide (s4 < 32)) (
 C.draw <|
 C.ix (some (Addr.mk b2 0 none)) 32 1 s4 fun p11 =>
 C.ld (.int .u8) 1 p11 fun v12 =>
 C.ix (some (Addr.mk b3 0 none)) 32 1 s4 fun p14 =>
 C.ld (.int .u8) 1 p14 fun v15 =>
 C.ix (some (Addr.mk b2 0 none)) 32 1 s4 fun p17 =>
 C.st 1 p17 (.int .u8 (bitsI .xor .u8 v12 v15)) <|
 ct4 [(.int .i64 (IntKind.wrap .i64 (s4 + 1)))]
 ) (
 C.ld .agg 32 (Addr.mk b2 0 none) fun v18 =>
 C.st 32 (Addr.mk b4 0 none) (.agg v18) <|
 C.ld .agg 32 (Addr.mk b4 0 none) fun z11 =>
 C.ret (.agg z11)
 )
theorem spec_l01Xor_eq (C : Comb) (x0 : Array Value) (x1 : Array Value) : fT C Tryz.prog ⟨[(2, [(5, (.int .i64))])], [], [4], []⟩ n_spec_l01Xor [(.agg x0), (.agg x1)] = spec_l01Xor C x0 x1 := by kernel_rfl
theorem spec_l01Xor_calls {R : Value → World → Prop} {w : World} (x0 : Array Value) (x1 : Array Value) (h : (spec_l01Xor (real Tryz.prog R) x0 x1 : World → Prop) w) :
    Calls Tryz.prog n_spec_l01Xor [(.agg x0), (.agg x1)].toArray w fun e w' => ∃ v, e = .returned v ∧ R v w' := fT_sound mixed ⟨[(2, [(5, (.int .i64))])], [], [4], []⟩ (by rw [spec_l01Xor_eq]; exact h)

def laws_heldEntryS (C : Comb) (x0 : Sl) (x1 : Int) : C.St :=
 C.loop (TL [(.int .i64), (.int .i64)]) (embL [(.int .i64), (.int .i64)]) [(.int .i64 x1), (.int .i64 0)] fun s1 ct1 => C.any fun _ =>
 cond (decide (s1.2 < (x0.n : Int))) (
 C.join (TL []) (embL []) (fun s6 => C.any fun _ =>
 C.draw <|
 C.ix x0.a x0.n 2 s1.2 fun p24 =>
 C.ld .str 1 (p24.add 1) fun v26 =>
 C.call n_laws_markText [(.int .i64 (IntKind.wrap .i64 (s1.1 + 1)))] [.str] fun r28 =>
 C.chk [⟨4, 1, (p24.add 1), .str, v26⟩] <|
 C.pur (eqB .neq ty_string (.tmp 26) (.tmp 28) (.string v26) (.string r28)) .bool fun y29 =>
 cond y29 (
 C.ret (.int .i64 (-1))
 ) (
 ct1 [(.int .i64 (IntKind.wrap .i64 ((IntKind.wrap .i64 (s1.1 + 1)) + 1))), (.int .i64 (IntKind.wrap .i64 (s1.2 + 1)))]
 )
 ) fun jt =>
 C.draw <|
 C.ix x0.a x0.n 2 s1.2 fun p14 =>
 C.ld .str 1 (p14.add 0) fun v16 =>
 C.call n_laws_markText [(.int .i64 s1.1)] [.str] fun r18 =>
 C.chk [⟨4, 1, (p14.add 0), .str, v16⟩] <|
 C.pur (eqB .neq ty_string (.tmp 16) (.tmp 18) (.string v16) (.string r18)) .bool fun y19 =>
 cond y19 (
 C.ret (.int .i64 (-1))
 ) (
 jt []
 )
 ) (
 C.ret (.int .i64 s1.1)
 )
theorem laws_heldEntryS_eq (C : Comb) (x0 : Sl) (x1 : Int) : fT C Tryz.prog ⟨[(2, [(1, (.int .i64)), (5, (.int .i64))])], [(57, [])], [4, 7], []⟩ n_laws_heldEntryS [(.slice x0.a x0.n x0.c), (.int .i64 x1)] = laws_heldEntryS C x0 x1 := by kernel_rfl
theorem laws_heldEntryS_calls {R : Value → World → Prop} {w : World} (x0 : Sl) (x1 : Int) (h : (laws_heldEntryS (real Tryz.prog R) x0 x1 : World → Prop) w) :
    Calls Tryz.prog n_laws_heldEntryS [(.slice x0.a x0.n x0.c), (.int .i64 x1)].toArray w fun e w' => ∃ v, e = .returned v ∧ R v w' := fT_sound mixed ⟨[(2, [(1, (.int .i64)), (5, (.int .i64))])], [(57, [])], [4, 7], []⟩ (by rw [laws_heldEntryS_eq]; exact h)

def impl_EmptyMapKey (C : Comb)  : C.St :=
 C.new ty_impl_Key (.agg (Array.replicate 32 (.int .u8 0))) fun b0 =>
 C.call n_impl_hash [(.int .u8 5), (.slice none 0 0)] [.agg] fun r1 =>
 C.st 32 (Addr.mk b0 0 none) (.agg r1) <|
 C.ld .agg 32 (Addr.mk b0 0 none) fun z3 =>
 C.ret (.agg z3)
theorem impl_EmptyMapKey_eq (C : Comb)  : fT C Tryz.prog ⟨[], [], [], []⟩ n_impl_EmptyMapKey [] = impl_EmptyMapKey C  := by kernel_rfl
theorem impl_EmptyMapKey_calls {R : Value → World → Prop} {w : World}  (h : (impl_EmptyMapKey (real Tryz.prog R)  : World → Prop) w) :
    Calls Tryz.prog n_impl_EmptyMapKey [].toArray w fun e w' => ∃ v, e = .returned v ∧ R v w' := fT_sound mixed ⟨[], [], [], []⟩ (by rw [impl_EmptyMapKey_eq]; exact h)

def spec_l04Empty (C : Comb)  : C.St :=
 C.new ty_impl_Key (.agg (Array.replicate 32 (.int .u8 0))) fun b0 =>
 C.sem (Instr.buildSlice ty_sl_uint8 0 #[]) .slice fun y1 =>
 C.call n_spec_l01Hash [(.int .u8 5), (.slice y1.a y1.n y1.c)] [.agg] fun r2 =>
 C.st 32 (Addr.mk b0 0 none) (.agg r2) <|
 C.ld .agg 32 (Addr.mk b0 0 none) fun z4 =>
 C.ret (.agg z4)
theorem spec_l04Empty_eq (C : Comb)  : fT C Tryz.prog ⟨[], [], [], []⟩ n_spec_l04Empty [] = spec_l04Empty C  := by kernel_rfl
theorem spec_l04Empty_calls {R : Value → World → Prop} {w : World}  (h : (spec_l04Empty (real Tryz.prog R)  : World → Prop) w) :
    Calls Tryz.prog n_spec_l04Empty [].toArray w fun e w' => ∃ v, e = .returned v ∧ R v w' := fT_sound mixed ⟨[], [], [], []⟩ (by rw [spec_l04Empty_eq]; exact h)

end Go.Proofs.YtaadgdbegpmlmaaGreat
