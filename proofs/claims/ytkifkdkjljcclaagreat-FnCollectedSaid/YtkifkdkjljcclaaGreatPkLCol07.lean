/- Printed by a program of this claim's author: each Go function as a Lean function over abstract combinators, and the equation that says that T makes it of the loaded code. -/
import Derived.Test.YtkifkdkjljcclaaGreatProg
import Derived.Test.YtkifkdkjljcclaaGreatPkLCol06
namespace Go.Proofs.YtkifkdkjljcclaaGreat
open Go.Sx
def spec_StoreMap (C : Comb) (x0 : Array Value) (x1 : Sl) : C.St :=
 C.new ty_impl_Store (.agg x0) fun b2 =>
 C.new ty_impl_Store (.agg (#[(.slice none 0 0)])) fun b4 =>
 C.new ty_impl_Key (.agg (Array.replicate 32 (.int .u8 0))) fun b5 =>
 C.call n_spec_l05Open [(.pointer (some (Addr.mk b2 0 none)))] [.optr, .bool] fun r15 =>
 C.join (TL []) (embL []) (fun s12 => C.any fun _ =>
 C.call n_spec_l04Nodes [(.slice x1.a x1.n x1.c)] [.slice, .agg] fun r29 =>
 C.new ty_impl_Key (.agg (Array.replicate 32 (.int .u8 0))) fun b10 =>
 C.st 32 (Addr.mk b10 0 none) (.agg r29.2) <|
 C.loop (TL [(.int .i64)]) (embL [(.int .i64)]) [(.int .i64 0)] fun s15 ct15 => C.any fun _ =>
 cond (decide (s15 < (r29.1.n : Int))) (
 C.ix r29.1.a r29.1.n 66 s15 fun p42 =>
 C.call n_spec_l04Bytes [(.pointer (some p42))] [.slice] fun r43 =>
 C.pur (Instr.build ty_impl_Blob #[(0, (.int .u8 5)), (1, (.slice r43.a r43.n r43.c))]) .agg fun y44 =>
 C.call n_ptr_spec_l05Store_put [(.pointer r15.1), (.agg y44)] [.agg, (.int .i64)] fun r45 =>
 C.new ty_impl_Key (.agg (Array.replicate 32 (.int .u8 0))) fun b12 =>
 C.st 32 (Addr.mk b12 0 none) (.agg r45.1) <|
 cond (r45.2 != 0) (
 C.ld .agg 32 (Addr.mk b10 0 none) fun v51 =>
 C.call n_spec_l05Made [(.pointer r15.1), (.agg v51), (.int .i64 r45.2)] [.agg, .agg, (.int .i64)] fun r53 =>
 C.st 1 (Addr.mk b4 0 none) (.agg r53.1) <|
 C.st 32 (Addr.mk b5 0 none) (.agg r53.2.1) <|
 C.ld .agg 1 (Addr.mk b4 0 none) fun z23 =>
 C.ld .agg 32 (Addr.mk b5 0 none) fun z24 =>
 C.ret (.tuple #[(.agg z23), (.agg z24), (.int .i64 r53.2.2)])
 ) (
 ct15 [(.int .i64 (IntKind.wrap .i64 (s15 + 1)))]
 )
 ) (
 C.ld .agg 32 (Addr.mk b10 0 none) fun v58 =>
 C.call n_spec_l05Made [(.pointer r15.1), (.agg v58), (.int .i64 0)] [.agg, .agg, (.int .i64)] fun r59 =>
 C.st 1 (Addr.mk b4 0 none) (.agg r59.1) <|
 C.st 32 (Addr.mk b5 0 none) (.agg r59.2.1) <|
 C.ld .agg 1 (Addr.mk b4 0 none) fun z27 =>
 C.ld .agg 32 (Addr.mk b5 0 none) fun z28 =>
 C.ret (.tuple #[(.agg z27), (.agg z28), (.int .i64 r59.2.2)])
 )
 ) fun jt =>
 cond (!r15.2) (
 C.pur (Instr.build ty_impl_Store #[]) .agg fun y25 =>
 C.st 1 (Addr.mk b4 0 none) (.agg y25) <|
 C.st 32 (Addr.mk b5 0 none) (.agg (Array.replicate 32 (.int .u8 0))) <|
 C.ld .agg 1 (Addr.mk b4 0 none) fun z6 =>
 C.ld .agg 32 (Addr.mk b5 0 none) fun z7 =>
 C.ret (.tuple #[(.agg z6), (.agg z7), (.int .i64 1)])
 ) (
 C.call n_spec_l04Ok [(.slice x1.a x1.n x1.c)] [.bool] fun r22 =>
 cond (!r22) (
 C.pur (Instr.build ty_impl_Store #[]) .agg fun y25 =>
 C.st 1 (Addr.mk b4 0 none) (.agg y25) <|
 C.st 32 (Addr.mk b5 0 none) (.agg (Array.replicate 32 (.int .u8 0))) <|
 C.ld .agg 1 (Addr.mk b4 0 none) fun z10 =>
 C.ld .agg 32 (Addr.mk b5 0 none) fun z11 =>
 C.ret (.tuple #[(.agg z10), (.agg z11), (.int .i64 1)])
 ) (
 jt []
 )
 )
theorem spec_StoreMap_eq (C : Comb) (x0 : Array Value) (x1 : Sl) : fT C Tryz.prog ⟨[(6, [(11, (.int .i64))])], [(72, [])], [], []⟩ n_spec_StoreMap [(.agg x0), (.slice x1.a x1.n x1.c)] = spec_StoreMap C x0 x1 := by kernel_rfl
theorem spec_StoreMap_calls {R : Value → World → Prop} {w : World} (x0 : Array Value) (x1 : Sl) (h : (spec_StoreMap (real Tryz.prog R) x0 x1 : World → Prop) w) :
    Calls Tryz.prog n_spec_StoreMap [(.agg x0), (.slice x1.a x1.n x1.c)].toArray w fun e w' => ∃ v, e = .returned v ∧ R v w' := fT_sound mixed ⟨[(6, [(11, (.int .i64))])], [(72, [])], [], []⟩ (by rw [spec_StoreMap_eq]; exact h)

def spec_StoreList (C : Comb) (x0 : Array Value) (x1 : Sl) : C.St :=
 C.new ty_impl_Store (.agg x0) fun b2 =>
 C.new ty_impl_Store (.agg (#[(.slice none 0 0)])) fun b4 =>
 C.new ty_impl_Key (.agg (Array.replicate 32 (.int .u8 0))) fun b5 =>
 cond (decide ((x1.n : Int) > 256)) (
 C.pur (Instr.build ty_impl_Store #[]) .agg fun y21 =>
 C.st 1 (Addr.mk b4 0 none) (.agg y21) <|
 C.st 32 (Addr.mk b5 0 none) (.agg (Array.replicate 32 (.int .u8 0))) <|
 C.ld .agg 1 (Addr.mk b4 0 none) fun z5 =>
 C.ld .agg 32 (Addr.mk b5 0 none) fun z6 =>
 C.ret (.tuple #[(.agg z5), (.agg z6), (.int .i64 3)])
 ) (
 C.call n_spec_l05Open [(.pointer (some (Addr.mk b2 0 none)))] [.optr, .bool] fun r24 =>
 C.join (TL [.bool]) (embL [.bool]) (fun s12 => C.any fun _ =>
 cond (!s12) (
 C.pur (Instr.build ty_impl_Store #[]) .agg fun y44 =>
 C.st 1 (Addr.mk b4 0 none) (.agg y44) <|
 C.st 32 (Addr.mk b5 0 none) (.agg (Array.replicate 32 (.int .u8 0))) <|
 C.ld .agg 1 (Addr.mk b4 0 none) fun z14 =>
 C.ld .agg 32 (Addr.mk b5 0 none) fun z15 =>
 C.ret (.tuple #[(.agg z14), (.agg z15), (.int .i64 1)])
 ) (
 C.sem (Instr.buildSlice ty_sl_impl_Key 0 #[]) .slice fun y46 =>
 C.loop (TL [.slice, (.int .i64)]) (embL [.slice, (.int .i64)]) [(.slice y46.a y46.n y46.c), (.int .i64 0)] fun s17 ct17 => C.any fun _ =>
 cond (decide (s17.2 < (x1.n : Int))) (
 C.ix x1.a x1.n 1 s17.2 fun p57 =>
 C.ld .slice 1 p57 fun v58 =>
 C.pur (Instr.build ty_impl_Blob #[(0, (.int .u8 1)), (1, (.slice v58.a v58.n v58.c))]) .agg fun y59 =>
 C.call n_ptr_spec_l05Store_put [(.pointer r24.1), (.agg y59)] [.agg, (.int .i64)] fun r60 =>
 C.new ty_impl_Key (.agg (Array.replicate 32 (.int .u8 0))) fun b12 =>
 C.st 32 (Addr.mk b12 0 none) (.agg r60.1) <|
 cond (r60.2 != 0) (
 C.ld .agg 32 (Addr.mk b12 0 none) fun v66 =>
 C.call n_spec_l05Made [(.pointer r24.1), (.agg v66), (.int .i64 r60.2)] [.agg, .agg, (.int .i64)] fun r68 =>
 C.st 1 (Addr.mk b4 0 none) (.agg r68.1) <|
 C.st 32 (Addr.mk b5 0 none) (.agg r68.2.1) <|
 C.ld .agg 1 (Addr.mk b4 0 none) fun z25 =>
 C.ld .agg 32 (Addr.mk b5 0 none) fun z26 =>
 C.ret (.tuple #[(.agg z25), (.agg z26), (.int .i64 r68.2.2)])
 ) (
 C.ld .agg 32 (Addr.mk b12 0 none) fun v73 =>
 C.sem (Instr.buildSlice ty_sl_impl_Key 1 #[(0, (.agg v73))]) .slice fun y74 =>
 C.sem (Builtin.append_ #[ty_sl_impl_Key, ty_sl_impl_Key] ty_sl_impl_Key #[(.slice s17.1.a s17.1.n s17.1.c), (.slice y74.a y74.n y74.c)]) .slice fun y75 =>
 ct17 [(.slice y75.a y75.n y75.c), (.int .i64 (IntKind.wrap .i64 (s17.2 + 1)))]
 )
 ) (
 cond ((s17.1.n : Int) == 0) (
 C.pur (Instr.build ty_impl_Blob #[(0, (.int .u8 3))]) .agg fun y81 =>
 C.call n_ptr_spec_l05Store_put [(.pointer r24.1), (.agg y81)] [.agg, (.int .i64)] fun r82 =>
 C.new ty_impl_Key (.agg (Array.replicate 32 (.int .u8 0))) fun b14 =>
 C.st 32 (Addr.mk b14 0 none) (.agg r82.1) <|
 C.ld .agg 32 (Addr.mk b14 0 none) fun v86 =>
 C.call n_spec_l05Made [(.pointer r24.1), (.agg v86), (.int .i64 r82.2)] [.agg, .agg, (.int .i64)] fun r88 =>
 C.st 1 (Addr.mk b4 0 none) (.agg r88.1) <|
 C.st 32 (Addr.mk b5 0 none) (.agg r88.2.1) <|
 C.ld .agg 1 (Addr.mk b4 0 none) fun z35 =>
 C.ld .agg 32 (Addr.mk b5 0 none) fun z36 =>
 C.ret (.tuple #[(.agg z35), (.agg z36), (.int .i64 r88.2.2)])
 ) (
 C.call n_ptr_spec_l05Store_list [(.pointer r24.1), (.slice s17.1.a s17.1.n s17.1.c)] [.agg, (.int .i64)] fun r95 =>
 C.new ty_impl_Key (.agg (Array.replicate 32 (.int .u8 0))) fun b16 =>
 C.st 32 (Addr.mk b16 0 none) (.agg r95.1) <|
 C.ld .agg 32 (Addr.mk b16 0 none) fun v99 =>
 C.call n_spec_l05Made [(.pointer r24.1), (.agg v99), (.int .i64 r95.2)] [.agg, .agg, (.int .i64)] fun r101 =>
 C.st 1 (Addr.mk b4 0 none) (.agg r101.1) <|
 C.st 32 (Addr.mk b5 0 none) (.agg r101.2.1) <|
 C.ld .agg 1 (Addr.mk b4 0 none) fun z41 =>
 C.ld .agg 32 (Addr.mk b5 0 none) fun z42 =>
 C.ret (.tuple #[(.agg z41), (.agg z42), (.int .i64 r101.2.2)])
 )
 )
 )
 ) fun jt =>
 C.loop (TL [.bool, (.int .i64)]) (embL [.bool, (.int .i64)]) [(.bool r24.2), (.int .i64 0)] fun s8 ct8 => C.any fun _ =>
 C.join (TL []) (embL []) (fun s9 => C.any fun _ =>
 C.ix x1.a x1.n 1 s8.2 fun p38 =>
 C.ld .slice 1 p38 fun v39 =>
 ct8 [(.bool (decide ((v39.n : Int) ≤ 1024))), (.int .i64 (IntKind.wrap .i64 (s8.2 + 1)))]
 ) fun jt1 =>
 cond (decide (s8.2 < (x1.n : Int))) (
 cond s8.1 (
 jt1 []
 ) (
 jt [(.bool s8.1)]
 )
 ) (
 jt [(.bool s8.1)]
 )
 )
theorem spec_StoreList_eq (C : Comb) (x0 : Array Value) (x1 : Sl) : fT C Tryz.prog ⟨[(5, [(8, .bool), (9, (.int .i64))]), (12, [(10, .slice), (11, (.int .i64))])], [(99, []), (17, [(8, .bool)])], [], []⟩ n_spec_StoreList [(.agg x0), (.slice x1.a x1.n x1.c)] = spec_StoreList C x0 x1 := by kernel_rfl
theorem spec_StoreList_calls {R : Value → World → Prop} {w : World} (x0 : Array Value) (x1 : Sl) (h : (spec_StoreList (real Tryz.prog R) x0 x1 : World → Prop) w) :
    Calls Tryz.prog n_spec_StoreList [(.agg x0), (.slice x1.a x1.n x1.c)].toArray w fun e w' => ∃ v, e = .returned v ∧ R v w' := fT_sound mixed ⟨[(5, [(8, .bool), (9, (.int .i64))]), (12, [(10, .slice), (11, (.int .i64))])], [(99, []), (17, [(8, .bool)])], [], []⟩ (by rw [spec_StoreList_eq]; exact h)

def spec_l00From (C : Comb) (x0 : Sl) : C.St :=
 C.pur (Instr.build ty_spec_l00Src #[(0, (.slice x0.a x0.n x0.c))]) .agg fun y4 =>
 C.new ty_spec_l00Src (.agg y4) fun b5 =>
 C.ret (.pointer (some (Addr.mk b5 0 none)))
theorem spec_l00From_eq (C : Comb) (x0 : Sl) : fT C Tryz.prog ⟨[], [], [], []⟩ n_spec_l00From [(.slice x0.a x0.n x0.c)] = spec_l00From C x0 := by kernel_rfl
theorem spec_l00From_calls {R : Value → World → Prop} {w : World} (x0 : Sl) (h : (spec_l00From (real Tryz.prog R) x0 : World → Prop) w) :
    Calls Tryz.prog n_spec_l00From [(.slice x0.a x0.n x0.c)].toArray w fun e w' => ∃ v, e = .returned v ∧ R v w' := fT_sound mixed ⟨[], [], [], []⟩ (by rw [spec_l00From_eq]; exact h)

def spec_l05Open (C : Comb) (x0 : Addr) : C.St :=
 C.pur (Instr.build ty_spec_l05Store #[]) .agg fun y7 =>
 C.new ty_spec_l05Store (.agg y7) fun b8 =>
 C.ld .slice 1 (x0.add 0) fun v12 =>
 cond (decide ((v12.n : Int) > 128)) (
 C.ret (.tuple #[(.pointer (some (Addr.mk b8 0 none))), (.bool false)])
 ) (
 C.loop (TL [(.int .i64)]) (embL [(.int .i64)]) [(.int .i64 0)] fun s4 ct4 => C.any fun _ =>
 C.ld .slice 1 (x0.add 0) fun v20 =>
 cond (decide (s4 < (v20.n : Int))) (
 C.ld .slice 1 (x0.add 0) fun v28 =>
 C.ix v28.a v28.n 2 s4 fun p30 =>
 C.call n_spec_l05Blob [(.pointer (some p30))] [.bool] fun r31 =>
 cond (!r31) (
 C.ret (.tuple #[(.pointer (some (Addr.mk b8 0 none))), (.bool false)])
 ) (
 C.ld .slice 1 (x0.add 0) fun v37 =>
 C.ix v37.a v37.n 2 s4 fun p39 =>
 C.call n_spec_l05Key [(.pointer (some p39))] [.agg] fun r40 =>
 C.new ty_impl_Key (.agg (Array.replicate 32 (.int .u8 0))) fun b6 =>
 C.st 32 (Addr.mk b6 0 none) (.agg r40) <|
 C.join (TL []) (embL []) (fun s26 => C.any fun _ =>
 C.join (TL []) (embL []) (fun s33 => C.any fun _ =>
 C.draw <|
 C.ld .slice 1 ((Addr.mk b8 0 none).add 1) fun v77 =>
 C.ld .agg 32 (Addr.mk b6 0 none) fun v78 =>
 C.sem (Instr.buildSlice ty_sl_impl_Key 1 #[(0, (.agg v78))]) .slice fun y79 =>
 C.chk [⟨4, 1, ((Addr.mk b8 0 none).add 1), .slice, v77⟩] <|
 C.sem (Builtin.append_ #[ty_sl_impl_Key, ty_sl_impl_Key] ty_sl_impl_Key #[(.slice v77.a v77.n v77.c), (.slice y79.a y79.n y79.c)]) .slice fun y80 =>
 C.st 1 ((Addr.mk b8 0 none).add 1) (.slice y80.a y80.n y80.c) <|
 ct4 [(.int .i64 (IntKind.wrap .i64 (s4 + 1)))]
 ) fun jt =>
 C.draw <|
 C.ld .slice 1 ((Addr.mk b8 0 none).add 0) fun v61 =>
 C.ld .slice 1 (x0.add 0) fun v65 =>
 C.ix v65.a v65.n 2 s4 fun p67 =>
 C.ld .agg 2 p67 fun v68 =>
 C.sem (Instr.buildSlice ty_sl_impl_Blob 1 #[(0, (.agg v68))]) .slice fun y69 =>
 C.chk [⟨8, 1, (x0.add 0), .slice, v65⟩, ⟨4, 1, ((Addr.mk b8 0 none).add 0), .slice, v61⟩] <|
 C.sem (Builtin.append_ #[ty_sl_impl_Blob, ty_sl_impl_Blob] ty_sl_impl_Blob #[(.slice v61.a v61.n v61.c), (.slice y69.a y69.n y69.c)]) .slice fun y70 =>
 C.chk [⟨8, 1, (x0.add 0), .slice, v65⟩] <|
 C.st 1 ((Addr.mk b8 0 none).add 0) (.slice y70.a y70.n y70.c) <|
 jt []
 ) fun jt =>
 C.draw <|
 cond (decide (s4 > 0)) (
 C.all [
 (C.ld .slice 1 ((Addr.mk b8 0 none).add 1) fun v47 =>
 C.ix v47.a v47.n 32 (IntKind.wrap .i64 (s4 - 1)) fun p50 =>
 C.all [
 (C.ld .agg 32 p50 fun v51 =>
 C.ld .agg 32 (Addr.mk b6 0 none) fun v52 =>
 C.call n_spec_l01Compare [(.agg v51), (.agg v52)] [(.int .i64)] fun r53 =>
 cond (decide (r53 ≥ 0)) (
 C.ret (.tuple #[(.pointer (some (Addr.mk b8 0 none))), (.bool false)])
 ) (
 jt []
 )),
 (C.ld .agg 32 (Addr.mk b6 0 none) fun v52 =>
 C.ld .agg 32 p50 fun v51 =>
 C.call n_spec_l01Compare [(.agg v51), (.agg v52)] [(.int .i64)] fun r53 =>
 cond (decide (r53 ≥ 0)) (
 C.ret (.tuple #[(.pointer (some (Addr.mk b8 0 none))), (.bool false)])
 ) (
 jt []
 ))]),
 (C.ld .agg 32 (Addr.mk b6 0 none) fun v52 =>
 C.ld .slice 1 ((Addr.mk b8 0 none).add 1) fun v47 =>
 C.ix v47.a v47.n 32 (IntKind.wrap .i64 (s4 - 1)) fun p50 =>
 C.ld .agg 32 p50 fun v51 =>
 C.call n_spec_l01Compare [(.agg v51), (.agg v52)] [(.int .i64)] fun r53 =>
 cond (decide (r53 ≥ 0)) (
 C.ret (.tuple #[(.pointer (some (Addr.mk b8 0 none))), (.bool false)])
 ) (
 jt []
 ))]
 ) (
 C.all [
 (C.all [
 (jt []),
 (jt [])]),
 (jt [])]
 )
 )
 ) (
 C.ret (.tuple #[(.pointer (some (Addr.mk b8 0 none))), (.bool true)])
 )
 )
theorem spec_l05Open_eq (C : Comb) (x0 : Addr) : fT C Tryz.prog ⟨[(5, [(5, (.int .i64))])], [(165, []), (37, [])], [10, 12, 13], []⟩ n_spec_l05Open [(.pointer (some x0))] = spec_l05Open C x0 := by kernel_rfl
theorem spec_l05Open_calls {R : Value → World → Prop} {w : World} (x0 : Addr) (h : (spec_l05Open (real Tryz.prog R) x0 : World → Prop) w) :
    Calls Tryz.prog n_spec_l05Open [(.pointer (some x0))].toArray w fun e w' => ∃ v, e = .returned v ∧ R v w' := fT_sound mixed ⟨[(5, [(5, (.int .i64))])], [(165, []), (37, [])], [10, 12, 13], []⟩ (by rw [spec_l05Open_eq]; exact h)

def ptr_spec_l00Src_pick (C : Comb) (x0 : Addr) (x1 : Int) : C.St :=
 cond (decide (x1 ≤ 1)) (
 C.ret (.int .i64 0)
 ) (
 C.call n_ptr_spec_l00Src_next [(.pointer (some x0))] [(.int .i64)] fun r9 =>
 cond (decide (x1 > 200)) (
 C.call n_ptr_spec_l00Src_next [(.pointer (some x0))] [(.int .i64)] fun r15 =>
 C.pur (eqB .rem ty_int64 (.tmp 17) (.tmp 18) (.int .i64 (IntKind.wrap .i64 ((IntKind.wrap .i64 (r9 * 256)) + r15))) (.int .i64 x1)) (.int .i64) fun y19 =>
 C.ret (.int .i64 y19)
 ) (
 C.pur (eqB .rem ty_int64 (.tmp 17) (.tmp 18) (.int .i64 r9) (.int .i64 x1)) (.int .i64) fun y19 =>
 C.ret (.int .i64 y19)
 )
 )
theorem ptr_spec_l00Src_pick_eq (C : Comb) (x0 : Addr) (x1 : Int) : fT C Tryz.prog ⟨[], [], [], []⟩ n_ptr_spec_l00Src_pick [(.pointer (some x0)), (.int .i64 x1)] = ptr_spec_l00Src_pick C x0 x1 := by kernel_rfl
theorem ptr_spec_l00Src_pick_calls {R : Value → World → Prop} {w : World} (x0 : Addr) (x1 : Int) (h : (ptr_spec_l00Src_pick (real Tryz.prog R) x0 x1 : World → Prop) w) :
    Calls Tryz.prog n_ptr_spec_l00Src_pick [(.pointer (some x0)), (.int .i64 x1)].toArray w fun e w' => ∃ v, e = .returned v ∧ R v w' := fT_sound mixed ⟨[], [], [], []⟩ (by rw [ptr_spec_l00Src_pick_eq]; exact h)

def spec_l05SameBlob (C : Comb) (x0 : Addr) (x1 : Addr) : C.St :=
 C.draw <|
 C.ld (.int .u8) 1 (x0.add 0) fun v8 =>
 C.ld (.int .u8) 1 (x1.add 0) fun v12 =>
 cond (v8 == v12) (
 C.all [
 (C.ld .slice 1 (x0.add 1) fun v18 =>
 C.chk [⟨7, 1, (x1.add 0), (.int .u8), v12⟩, ⟨3, 1, (x0.add 0), (.int .u8), v8⟩] <|
 C.ld .slice 1 (x1.add 1) fun v22 =>
 C.chk [⟨7, 1, (x1.add 0), (.int .u8), v12⟩, ⟨3, 1, (x0.add 0), (.int .u8), v8⟩] <|
 C.call n_spec_l01Bytes [(.slice v18.a v18.n v18.c), (.slice v22.a v22.n v22.c)] [.bool] fun r23 =>
 C.chk [⟨7, 1, (x1.add 0), (.int .u8), v12⟩, ⟨3, 1, (x0.add 0), (.int .u8), v8⟩] <|
 C.ret (.bool r23)),
 (C.ld .slice 1 (x1.add 1) fun v22 =>
 C.chk [⟨7, 1, (x1.add 0), (.int .u8), v12⟩, ⟨3, 1, (x0.add 0), (.int .u8), v8⟩] <|
 C.ld .slice 1 (x0.add 1) fun v18 =>
 C.chk [⟨7, 1, (x1.add 0), (.int .u8), v12⟩, ⟨3, 1, (x0.add 0), (.int .u8), v8⟩] <|
 C.call n_spec_l01Bytes [(.slice v18.a v18.n v18.c), (.slice v22.a v22.n v22.c)] [.bool] fun r23 =>
 C.chk [⟨7, 1, (x1.add 0), (.int .u8), v12⟩, ⟨3, 1, (x0.add 0), (.int .u8), v8⟩] <|
 C.ret (.bool r23))]
 ) (
 C.all [
 (C.chk [⟨7, 1, (x1.add 0), (.int .u8), v12⟩, ⟨3, 1, (x0.add 0), (.int .u8), v8⟩] <|
 C.chk [⟨7, 1, (x1.add 0), (.int .u8), v12⟩, ⟨3, 1, (x0.add 0), (.int .u8), v8⟩] <|
 C.chk [⟨7, 1, (x1.add 0), (.int .u8), v12⟩, ⟨3, 1, (x0.add 0), (.int .u8), v8⟩] <|
 C.ret (.bool false)),
 (C.chk [⟨7, 1, (x1.add 0), (.int .u8), v12⟩, ⟨3, 1, (x0.add 0), (.int .u8), v8⟩] <|
 C.chk [⟨7, 1, (x1.add 0), (.int .u8), v12⟩, ⟨3, 1, (x0.add 0), (.int .u8), v8⟩] <|
 C.chk [⟨7, 1, (x1.add 0), (.int .u8), v12⟩, ⟨3, 1, (x0.add 0), (.int .u8), v8⟩] <|
 C.ret (.bool false))]
 )
theorem spec_l05SameBlob_eq (C : Comb) (x0 : Addr) (x1 : Addr) : fT C Tryz.prog ⟨[], [], [1], []⟩ n_spec_l05SameBlob [(.pointer (some x0)), (.pointer (some x1))] = spec_l05SameBlob C x0 x1 := by kernel_rfl
theorem spec_l05SameBlob_calls {R : Value → World → Prop} {w : World} (x0 : Addr) (x1 : Addr) (h : (spec_l05SameBlob (real Tryz.prog R) x0 x1 : World → Prop) w) :
    Calls Tryz.prog n_spec_l05SameBlob [(.pointer (some x0)), (.pointer (some x1))].toArray w fun e w' => ∃ v, e = .returned v ∧ R v w' := fT_sound mixed ⟨[], [], [1], []⟩ (by rw [spec_l05SameBlob_eq]; exact h)

def impl_within (C : Comb) (x0 : Int) (x1 : Int) (x2 : Int) : C.St :=
 cond (decide (x0 ≥ x1)) (
 C.ret (.bool (decide (x0 ≤ x2)))
 ) (
 C.ret (.bool false)
 )
theorem impl_within_eq (C : Comb) (x0 : Int) (x1 : Int) (x2 : Int) : fT C Tryz.prog ⟨[], [], [], []⟩ n_impl_within [(.int .i64 x0), (.int .i64 x1), (.int .i64 x2)] = impl_within C x0 x1 x2 := by kernel_rfl
theorem impl_within_calls {R : Value → World → Prop} {w : World} (x0 : Int) (x1 : Int) (x2 : Int) (h : (impl_within (real Tryz.prog R) x0 x1 x2 : World → Prop) w) :
    Calls Tryz.prog n_impl_within [(.int .i64 x0), (.int .i64 x1), (.int .i64 x2)].toArray w fun e w' => ∃ v, e = .returned v ∧ R v w' := fT_sound mixed ⟨[], [], [], []⟩ (by rw [impl_within_eq]; exact h)

def impl_size_byte (C : Comb) (x0 : Sl) : C.St :=
 C.ret (.int .i64 (x0.n : Int))
theorem impl_size_byte_eq (C : Comb) (x0 : Sl) : fT C Tryz.prog ⟨[], [], [], []⟩ n_impl_size_byte [(.slice x0.a x0.n x0.c)] = impl_size_byte C x0 := by kernel_rfl
theorem impl_size_byte_calls {R : Value → World → Prop} {w : World} (x0 : Sl) (h : (impl_size_byte (real Tryz.prog R) x0 : World → Prop) w) :
    Calls Tryz.prog n_impl_size_byte [(.slice x0.a x0.n x0.c)].toArray w fun e w' => ∃ v, e = .returned v ∧ R v w' := fT_sound mixed ⟨[], [], [], []⟩ (by rw [impl_size_byte_eq]; exact h)

def slices_Clone_sl_byte_byte (C : Comb) (x0 : Sl) : C.St :=
 C.pur (eqB .eql ty_sl_uint8 (.tmp 3) (.const (.slice none 0 0)) (.slice x0.a x0.n x0.c) (.slice none 0 0)) .bool fun y4 =>
 cond y4 (
 C.ret (.slice none 0 0)
 ) (
 C.sem (Instr.buildSlice ty_sl_uint8 0 #[]) .slice fun y5 =>
 C.sem (Builtin.append_ #[ty_sl_uint8, ty_sl_uint8] ty_sl_uint8 #[(.slice y5.a y5.n y5.c), (.slice x0.a x0.n x0.c)]) .slice fun y7 =>
 C.ret (.slice y7.a y7.n y7.c)
 )
theorem slices_Clone_sl_byte_byte_eq (C : Comb) (x0 : Sl) : fT C Tryz.prog ⟨[], [], [], []⟩ n_slices_Clone_sl_byte_byte [(.slice x0.a x0.n x0.c)] = slices_Clone_sl_byte_byte C x0 := by kernel_rfl
theorem slices_Clone_sl_byte_byte_calls {R : Value → World → Prop} {w : World} (x0 : Sl) (h : (slices_Clone_sl_byte_byte (real Tryz.prog R) x0 : World → Prop) w) :
    Calls Tryz.prog n_slices_Clone_sl_byte_byte [(.slice x0.a x0.n x0.c)].toArray w fun e w' => ∃ v, e = .returned v ∧ R v w' := fT_sound mixed ⟨[], [], [], []⟩ (by rw [slices_Clone_sl_byte_byte_eq]; exact h)

def spec_l01Bytes (C : Comb) (x0 : Sl) (x1 : Sl) : C.St :=
 cond ((x0.n : Int) != (x1.n : Int)) (
 C.ret (.bool false)
 ) (
 C.loop (TL [(.int .i64)]) (embL [(.int .i64)]) [(.int .i64 0)] fun s1 ct1 => C.any fun _ =>
 cond (decide (s1 < (x0.n : Int))) (
 C.draw <|
 C.ix x0.a x0.n 1 s1 fun p19 =>
 C.ld (.int .u8) 1 p19 fun v20 =>
 C.ix x1.a x1.n 1 s1 fun p23 =>
 C.ld (.int .u8) 1 p23 fun v24 =>
 cond (v20 != v24) (
 C.ret (.bool false)
 ) (
 ct1 [(.int .i64 (IntKind.wrap .i64 (s1 + 1)))]
 )
 ) (
 C.ret (.bool true)
 )
 )
theorem spec_l01Bytes_eq (C : Comb) (x0 : Sl) (x1 : Sl) : fT C Tryz.prog ⟨[(4, [(5, (.int .i64))])], [], [], []⟩ n_spec_l01Bytes [(.slice x0.a x0.n x0.c), (.slice x1.a x1.n x1.c)] = spec_l01Bytes C x0 x1 := by kernel_rfl
theorem spec_l01Bytes_calls {R : Value → World → Prop} {w : World} (x0 : Sl) (x1 : Sl) (h : (spec_l01Bytes (real Tryz.prog R) x0 x1 : World → Prop) w) :
    Calls Tryz.prog n_spec_l01Bytes [(.slice x0.a x0.n x0.c), (.slice x1.a x1.n x1.c)].toArray w fun e w' => ∃ v, e = .returned v ∧ R v w' := fT_sound mixed ⟨[(4, [(5, (.int .i64))])], [], [], []⟩ (by rw [spec_l01Bytes_eq]; exact h)

def impl_sorted (C : Comb) (x0 : Sl) : C.St :=
 C.call n_slices_Clone_sl_impl_Key_impl_Key [(.slice x0.a x0.n x0.c)] [.slice] fun r5 =>
 C.call n_slices_SortFunc_sl_impl_Key_impl_Key [(.slice r5.a r5.n r5.c), (.func (.func n_impl_compareKeys) #[] #[])] [] fun r7 =>
 C.call n_slices_Compact_sl_impl_Key_impl_Key [(.slice r5.a r5.n r5.c)] [.slice] fun r9 =>
 C.ret (.slice r9.a r9.n r9.c)
theorem impl_sorted_eq (C : Comb) (x0 : Sl) : fT C Tryz.prog ⟨[], [], [], []⟩ n_impl_sorted [(.slice x0.a x0.n x0.c)] = impl_sorted C x0 := by kernel_rfl
theorem impl_sorted_calls {R : Value → World → Prop} {w : World} (x0 : Sl) (h : (impl_sorted (real Tryz.prog R) x0 : World → Prop) w) :
    Calls Tryz.prog n_impl_sorted [(.slice x0.a x0.n x0.c)].toArray w fun e w' => ∃ v, e = .returned v ∧ R v w' := fT_sound mixed ⟨[], [], [], []⟩ (by rw [impl_sorted_eq]; exact h)

def slices_DeleteFunc_sl_impl_Key_impl_Key (C : Comb) (x0 : Sl) (x1 : Value) : C.St :=
 C.call n_slices_IndexFunc_sl_impl_Key_impl_Key [(.slice x0.a x0.n x0.c), x1] [(.int .i64)] fun r10 =>
 cond (r10 == (-1)) (
 C.ret (.slice x0.a x0.n x0.c)
 ) (
 C.loop (TL [(.int .i64), (.int .i64)]) (embL [(.int .i64), (.int .i64)]) [(.int .i64 r10), (.int .i64 (IntKind.wrap .i64 (r10 + 1)))] fun s2 ct2 => C.any fun _ =>
 cond (decide (s2.2 < (x0.n : Int))) (
 C.ix x0.a x0.n 32 s2.2 fun p24 =>
 C.ld .agg 32 p24 fun v25 =>
 C.new ty_impl_Key (.agg (Array.replicate 32 (.int .u8 0))) fun b7 =>
 C.st 32 (Addr.mk b7 0 none) (.agg v25) <|
 C.ld .agg 32 (Addr.mk b7 0 none) fun v27 =>
 C.callV x1 [(.agg v27)] [.bool] fun r28 =>
 cond (!r28) (
 C.ld .agg 32 (Addr.mk b7 0 none) fun v32 =>
 C.ix x0.a x0.n 32 s2.1 fun p33 =>
 C.st 32 p33 (.agg v32) <|
 ct2 [(.int .i64 (IntKind.wrap .i64 (s2.1 + 1))), (.int .i64 (IntKind.wrap .i64 (s2.2 + 1)))]
 ) (
 ct2 [(.int .i64 s2.1), (.int .i64 (IntKind.wrap .i64 (s2.2 + 1)))]
 )
 ) (
 C.sl x0.a x0.n x0.c 32 (some s2.1) none none fun y38 =>
 C.sem (Builtin.clear_ #[ty_sl_impl_Key] ty_x #[(.slice y38.a y38.n y38.c)]) .val fun yq11 =>
 C.sl x0.a x0.n x0.c 32 none (some s2.1) none fun y41 =>
 C.ret (.slice y41.a y41.n y41.c)
 )
 )
theorem slices_DeleteFunc_sl_impl_Key_impl_Key_eq (C : Comb) (x0 : Sl) (x1 : Value) : fT C Tryz.prog ⟨[(5, [(5, (.int .i64)), (6, (.int .i64))])], [], [], []⟩ n_slices_DeleteFunc_sl_impl_Key_impl_Key [(.slice x0.a x0.n x0.c), x1] = slices_DeleteFunc_sl_impl_Key_impl_Key C x0 x1 := by kernel_rfl
theorem slices_DeleteFunc_sl_impl_Key_impl_Key_calls {R : Value → World → Prop} {w : World} (x0 : Sl) (x1 : Value) (h : (slices_DeleteFunc_sl_impl_Key_impl_Key (real Tryz.prog R) x0 x1 : World → Prop) w) :
    Calls Tryz.prog n_slices_DeleteFunc_sl_impl_Key_impl_Key [(.slice x0.a x0.n x0.c), x1].toArray w fun e w' => ∃ v, e = .returned v ∧ R v w' := fT_sound mixed ⟨[(5, [(5, (.int .i64)), (6, (.int .i64))])], [], [], []⟩ (by rw [slices_DeleteFunc_sl_impl_Key_impl_Key_eq]; exact h)

def slices_Clone_sl_impl_Key_impl_Key (C : Comb) (x0 : Sl) : C.St :=
 C.pur (eqB .eql ty_sl_impl_Key (.tmp 3) (.const (.slice none 0 0)) (.slice x0.a x0.n x0.c) (.slice none 0 0)) .bool fun y4 =>
 cond y4 (
 C.ret (.slice none 0 0)
 ) (
 C.sem (Instr.buildSlice ty_sl_impl_Key 0 #[]) .slice fun y5 =>
 C.sem (Builtin.append_ #[ty_sl_impl_Key, ty_sl_impl_Key] ty_sl_impl_Key #[(.slice y5.a y5.n y5.c), (.slice x0.a x0.n x0.c)]) .slice fun y7 =>
 C.ret (.slice y7.a y7.n y7.c)
 )
theorem slices_Clone_sl_impl_Key_impl_Key_eq (C : Comb) (x0 : Sl) : fT C Tryz.prog ⟨[], [], [], []⟩ n_slices_Clone_sl_impl_Key_impl_Key [(.slice x0.a x0.n x0.c)] = slices_Clone_sl_impl_Key_impl_Key C x0 := by kernel_rfl
theorem slices_Clone_sl_impl_Key_impl_Key_calls {R : Value → World → Prop} {w : World} (x0 : Sl) (h : (slices_Clone_sl_impl_Key_impl_Key (real Tryz.prog R) x0 : World → Prop) w) :
    Calls Tryz.prog n_slices_Clone_sl_impl_Key_impl_Key [(.slice x0.a x0.n x0.c)].toArray w fun e w' => ∃ v, e = .returned v ∧ R v w' := fT_sound mixed ⟨[], [], [], []⟩ (by rw [slices_Clone_sl_impl_Key_impl_Key_eq]; exact h)

def impl_compareKeys (C : Comb) (x0 : Array Value) (x1 : Array Value) : C.St :=
 C.new ty_impl_Key (.agg x0) fun b2 =>
 C.new ty_impl_Key (.agg x1) fun b3 =>
 C.draw <|
 C.sl (some (Addr.mk b2 0 none)) 32 32 1 none none none fun y5 =>
 C.sl (some (Addr.mk b3 0 none)) 32 32 1 none none none fun y6 =>
 C.callQ n_slices_Compare_sl_byte_byte [(.slice y5.a y5.n y5.c), (.slice y6.a y6.n y6.c)] [(.int .i64)] fun r7 =>
 C.ret (.int .i64 r7)
theorem impl_compareKeys_eq (C : Comb) (x0 : Array Value) (x1 : Array Value) : fT C Tryz.prog ⟨[], [], [], []⟩ n_impl_compareKeys [(.agg x0), (.agg x1)] = impl_compareKeys C x0 x1 := by kernel_rfl
theorem impl_compareKeys_calls {R : Value → World → Prop} {w : World} (x0 : Array Value) (x1 : Array Value) (h : (impl_compareKeys (real Tryz.prog R) x0 x1 : World → Prop) w) :
    Calls Tryz.prog n_impl_compareKeys [(.agg x0), (.agg x1)].toArray w fun e w' => ∃ v, e = .returned v ∧ R v w' := fT_sound mixed ⟨[], [], [], []⟩ (by rw [impl_compareKeys_eq]; exact h)

def spec_l01Compare (C : Comb) (x0 : Array Value) (x1 : Array Value) : C.St :=
 C.new ty_impl_Key (.agg x0) fun b2 =>
 C.new ty_impl_Key (.agg x1) fun b3 =>
 C.loop (TL [(.int .i64)]) (embL [(.int .i64)]) [(.int .i64 0)] fun s3 ct3 => C.any fun _ =>
 cond (decide (s3 < 32)) (
 C.draw <|
 C.ix (some (Addr.mk b2 0 none)) 32 1 s3 fun p11 =>
 C.ld (.int .u8) 1 p11 fun v12 =>
 C.ix (some (Addr.mk b3 0 none)) 32 1 s3 fun p14 =>
 C.ld (.int .u8) 1 p14 fun v15 =>
 cond (v12 != v15) (
 C.draw <|
 C.ix (some (Addr.mk b2 0 none)) 32 1 s3 fun p18 =>
 C.ld (.int .u8) 1 p18 fun v19 =>
 C.ix (some (Addr.mk b3 0 none)) 32 1 s3 fun p21 =>
 C.ld (.int .u8) 1 p21 fun v22 =>
 cond (decide (v19 < v22)) (
 C.ret (.int .i64 (-1))
 ) (
 C.ret (.int .i64 1)
 )
 ) (
 ct3 [(.int .i64 (IntKind.wrap .i64 (s3 + 1)))]
 )
 ) (
 C.ret (.int .i64 0)
 )
theorem spec_l01Compare_eq (C : Comb) (x0 : Array Value) (x1 : Array Value) : fT C Tryz.prog ⟨[(2, [(5, (.int .i64))])], [], [], []⟩ n_spec_l01Compare [(.agg x0), (.agg x1)] = spec_l01Compare C x0 x1 := by kernel_rfl
theorem spec_l01Compare_calls {R : Value → World → Prop} {w : World} (x0 : Array Value) (x1 : Array Value) (h : (spec_l01Compare (real Tryz.prog R) x0 x1 : World → Prop) w) :
    Calls Tryz.prog n_spec_l01Compare [(.agg x0), (.agg x1)].toArray w fun e w' => ∃ v, e = .returned v ∧ R v w' := fT_sound mixed ⟨[(2, [(5, (.int .i64))])], [], [], []⟩ (by rw [spec_l01Compare_eq]; exact h)

def spec_l01Has (C : Comb) (x0 : Sl) (x1 : Array Value) : C.St :=
 C.new ty_impl_Key (.agg x1) fun b3 =>
 C.loop (TL [(.int .i64)]) (embL [(.int .i64)]) [(.int .i64 0)] fun s2 ct2 => C.any fun _ =>
 cond (decide (s2 < (x0.n : Int))) (
 C.draw <|
 C.ix x0.a x0.n 32 s2 fun p14 =>
 C.ld .agg 32 p14 fun v15 =>
 C.ld .agg 32 (Addr.mk b3 0 none) fun v16 =>
 C.pur (eqB .eql ty_impl_Key (.tmp 15) (.tmp 16) (.agg v15) (.agg v16)) .bool fun y17 =>
 cond y17 (
 C.ret (.bool true)
 ) (
 ct2 [(.int .i64 (IntKind.wrap .i64 (s2 + 1)))]
 )
 ) (
 C.ret (.bool false)
 )
theorem spec_l01Has_eq (C : Comb) (x0 : Sl) (x1 : Array Value) : fT C Tryz.prog ⟨[(2, [(5, (.int .i64))])], [], [], []⟩ n_spec_l01Has [(.slice x0.a x0.n x0.c), (.agg x1)] = spec_l01Has C x0 x1 := by kernel_rfl
theorem spec_l01Has_calls {R : Value → World → Prop} {w : World} (x0 : Sl) (x1 : Array Value) (h : (spec_l01Has (real Tryz.prog R) x0 x1 : World → Prop) w) :
    Calls Tryz.prog n_spec_l01Has [(.slice x0.a x0.n x0.c), (.agg x1)].toArray w fun e w' => ∃ v, e = .returned v ∧ R v w' := fT_sound mixed ⟨[(2, [(5, (.int .i64))])], [], [], []⟩ (by rw [spec_l01Has_eq]; exact h)

def spec_l05Drawn (C : Comb) (x0 : Addr) : C.St :=
 C.new ty_impl_Store (.agg (#[(.slice none 0 0)])) fun b2 =>
 C.pur (Instr.build ty_impl_Store #[]) .agg fun y12 =>
 C.new ty_impl_Store (.agg (#[(.slice none 0 0)])) fun b4 =>
 C.st 1 (Addr.mk b4 0 none) (.agg y12) <|
 C.sem (Instr.buildSlice ty_sl_impl_Key 0 #[]) .slice fun y13 =>
 C.call n_ptr_spec_l00Src_pick [(.pointer (some x0)), (.int .i64 4)] [(.int .i64)] fun r15 =>
 C.loop (TL [.slice, (.int .i64)]) (embL [.slice, (.int .i64)]) [(.slice y13.a y13.n y13.c), (.int .i64 r15)] fun s6 ct6 => C.any fun _ =>
 cond (decide (s6.2 > 0)) (
 C.new ty_impl_Key (.agg (Array.replicate 32 (.int .u8 0))) fun b7 =>
 C.st 32 (Addr.mk b7 0 none) (.agg (Array.replicate 32 (.int .u8 0))) <|
 C.ld .agg 1 (Addr.mk b4 0 none) fun v21 =>
 C.new ty_impl_Store (.agg (#[(.slice none 0 0)])) fun b8 =>
 C.st 1 (Addr.mk b8 0 none) (.agg v21) <|
 C.join (TL [(.int .i64)]) (embL [(.int .i64)]) (fun s32 => C.any fun _ =>
 cond (s32 == 0) (
 C.ld .agg 1 (Addr.mk b8 0 none) fun v71 =>
 C.st 1 (Addr.mk b4 0 none) (.agg v71) <|
 C.ld .agg 32 (Addr.mk b7 0 none) fun v73 =>
 C.sem (Instr.buildSlice ty_sl_impl_Key 1 #[(0, (.agg v73))]) .slice fun y74 =>
 C.sem (Builtin.append_ #[ty_sl_impl_Key, ty_sl_impl_Key] ty_sl_impl_Key #[(.slice s6.1.a s6.1.n s6.1.c), (.slice y74.a y74.n y74.c)]) .slice fun y75 =>
 ct6 [(.slice y75.a y75.n y75.c), (.int .i64 (IntKind.wrap .i64 (s6.2 - 1)))]
 ) (
 ct6 [(.slice s6.1.a s6.1.n s6.1.c), (.int .i64 (IntKind.wrap .i64 (s6.2 - 1)))]
 )
 ) fun jt =>
 C.call n_ptr_spec_l00Src_pick [(.pointer (some x0)), (.int .i64 4)] [(.int .i64)] fun r23 =>
 cond (r23 == 0) (
 C.draw <|
 C.ld .agg 1 (Addr.mk b4 0 none) fun v27 =>
 C.call n_spec_l04Drawn [(.pointer (some x0)), (.int .i64 5)] [.slice] fun r29 =>
 C.chk [⟨0, 1, (Addr.mk b4 0 none), .agg, v27⟩] <|
 C.call n_spec_StoreMap [(.agg v27), (.slice r29.a r29.n r29.c)] [.agg, .agg, (.int .i64)] fun r30 =>
 C.st 1 (Addr.mk b8 0 none) (.agg r30.1) <|
 C.st 32 (Addr.mk b7 0 none) (.agg r30.2.1) <|
 jt [(.int .i64 r30.2.2)]
 ) (
 cond (r23 == 1) (
 C.draw <|
 C.ld .agg 1 (Addr.mk b4 0 none) fun v37 =>
 C.call n_spec_l05DrawChunks [(.pointer (some x0)), (.int .i64 5)] [.slice] fun r39 =>
 C.chk [⟨0, 1, (Addr.mk b4 0 none), .agg, v37⟩] <|
 C.call n_spec_StoreList [(.agg v37), (.slice r39.a r39.n r39.c)] [.agg, .agg, (.int .i64)] fun r40 =>
 C.st 1 (Addr.mk b8 0 none) (.agg r40.1) <|
 C.st 32 (Addr.mk b7 0 none) (.agg r40.2.1) <|
 jt [(.int .i64 r40.2.2)]
 ) (
 cond (r23 == 2) (
 C.ld .agg 1 (Addr.mk b4 0 none) fun v47 =>
 C.call n_spec_PutFolder [(.agg v47), (.slice s6.1.a s6.1.n s6.1.c)] [.agg, .agg, (.int .i64)] fun r49 =>
 C.st 1 (Addr.mk b8 0 none) (.agg r49.1) <|
 C.st 32 (Addr.mk b7 0 none) (.agg r49.2.1) <|
 jt [(.int .i64 r49.2.2)]
 ) (
 cond (r23 == 3) (
 C.draw <|
 C.ld .agg 1 (Addr.mk b4 0 none) fun v56 =>
 C.all [
 (C.call n_ptr_spec_l00Src_pick [(.pointer (some x0)), (.int .i64 9)] [(.int .i64)] fun r58 =>
 C.chk [⟨0, 1, (Addr.mk b4 0 none), .agg, v56⟩] <|
 C.sem (Instr.buildSlice ty_sl_string 3 #[(0, (.string (⟨#[]⟩ : ByteArray))), (1, (.string (⟨#[120]⟩ : ByteArray))), (2, (.string (⟨#[98, 108, 111, 98]⟩ : ByteArray)))]) .slice fun y61 =>
 C.chk [⟨0, 1, (Addr.mk b4 0 none), .agg, v56⟩] <|
 C.call n_ptr_spec_l00Src_text [(.pointer (some x0)), (.slice y61.a y61.n y61.c)] [.str] fun r62 =>
 C.chk [⟨0, 1, (Addr.mk b4 0 none), .agg, v56⟩] <|
 C.sem (convert ty_string ty_sl_uint8 (.string r62)) .slice fun y63 =>
 C.chk [⟨0, 1, (Addr.mk b4 0 none), .agg, v56⟩] <|
 C.pur (Instr.build ty_impl_Blob #[(0, (.int .u8 (IntKind.wrap .u8 (r58)))), (1, (.slice y63.a y63.n y63.c))]) .agg fun y64 =>
 C.call n_spec_PutBlob [(.agg v56), (.agg y64)] [.agg, .agg, (.int .i64)] fun r65 =>
 C.st 1 (Addr.mk b8 0 none) (.agg r65.1) <|
 C.st 32 (Addr.mk b7 0 none) (.agg r65.2.1) <|
 jt [(.int .i64 r65.2.2)]),
 (C.sem (Instr.buildSlice ty_sl_string 3 #[(0, (.string (⟨#[]⟩ : ByteArray))), (1, (.string (⟨#[120]⟩ : ByteArray))), (2, (.string (⟨#[98, 108, 111, 98]⟩ : ByteArray)))]) .slice fun y61 =>
 C.chk [⟨0, 1, (Addr.mk b4 0 none), .agg, v56⟩] <|
 C.call n_ptr_spec_l00Src_pick [(.pointer (some x0)), (.int .i64 9)] [(.int .i64)] fun r58 =>
 C.chk [⟨0, 1, (Addr.mk b4 0 none), .agg, v56⟩] <|
 C.call n_ptr_spec_l00Src_text [(.pointer (some x0)), (.slice y61.a y61.n y61.c)] [.str] fun r62 =>
 C.chk [⟨0, 1, (Addr.mk b4 0 none), .agg, v56⟩] <|
 C.sem (convert ty_string ty_sl_uint8 (.string r62)) .slice fun y63 =>
 C.chk [⟨0, 1, (Addr.mk b4 0 none), .agg, v56⟩] <|
 C.pur (Instr.build ty_impl_Blob #[(0, (.int .u8 (IntKind.wrap .u8 (r58)))), (1, (.slice y63.a y63.n y63.c))]) .agg fun y64 =>
 C.call n_spec_PutBlob [(.agg v56), (.agg y64)] [.agg, .agg, (.int .i64)] fun r65 =>
 C.st 1 (Addr.mk b8 0 none) (.agg r65.1) <|
 C.st 32 (Addr.mk b7 0 none) (.agg r65.2.1) <|
 jt [(.int .i64 r65.2.2)])]
 ) (
 jt [(.int .i64 0)]
 )
 )
 )
 )
 ) (
 C.join (TL [.bool]) (embL [.bool]) (fun s39 => C.any fun _ =>
 cond s39 (
 C.call n_spec_l05Open [(.pointer (some (Addr.mk b4 0 none)))] [.optr, .bool] fun r85 =>
 C.draw <|
 C.ld .agg 1 (Addr.mk b4 0 none) fun v89 =>
 dpT C r85.1 fun a42 =>
 C.ld .slice 1 (a42.add 1) fun v93 =>
 dpT C r85.1 fun a44 =>
 C.ld .slice 1 (a44.add 1) fun v98 =>
 C.call n_ptr_spec_l00Src_pick [(.pointer (some x0)), (.int .i64 (v98.n : Int))] [(.int .i64)] fun r100 =>
 C.chk [⟨9, 1, (a44.add 1), .slice, v98⟩, ⟨4, 1, (a42.add 1), .slice, v93⟩, ⟨0, 1, (Addr.mk b4 0 none), .agg, v89⟩] <|
 C.ix v93.a v93.n 32 r100 fun p101 =>
 C.ld .agg 32 p101 fun v102 =>
 C.call n_spec_DropBlob [(.agg v89), (.agg v102)] [.agg, (.int .i64)] fun r103 =>
 C.chk [⟨9, 1, (a44.add 1), .slice, v98⟩, ⟨4, 1, (a42.add 1), .slice, v93⟩] <|
 C.st 1 (Addr.mk b4 0 none) (.agg r103.1) <|
 C.ld .agg 1 (Addr.mk b4 0 none) fun v106 =>
 C.st 1 (Addr.mk b2 0 none) (.agg v106) <|
 C.ld .agg 1 (Addr.mk b2 0 none) fun z51 =>
 C.ret (.tuple #[(.agg z51), (.slice s6.1.a s6.1.n s6.1.c)])
 ) (
 C.ld .agg 1 (Addr.mk b4 0 none) fun v106 =>
 C.st 1 (Addr.mk b2 0 none) (.agg v106) <|
 C.ld .agg 1 (Addr.mk b2 0 none) fun z53 =>
 C.ret (.tuple #[(.agg z53), (.slice s6.1.a s6.1.n s6.1.c)])
 )
 ) fun jt =>
 C.call n_ptr_spec_l00Src_one [(.pointer (some x0)), (.int .i64 5)] [.bool] fun r77 =>
 cond r77 (
 C.ld .slice 1 ((Addr.mk b4 0 none).add 0) fun v80 =>
 jt [(.bool (decide ((v80.n : Int) > 0)))]
 ) (
 jt [(.bool false)]
 )
 )
theorem spec_l05Drawn_eq (C : Comb) (x0 : Addr) : fT C Tryz.prog ⟨[(4, [(5, .slice), (6, (.int .i64))])], [(32, [(9, (.int .i64))]), (64, [(83, .bool)])], [11, 13, 17, 23], []⟩ n_spec_l05Drawn [(.pointer (some x0))] = spec_l05Drawn C x0 := by kernel_rfl
theorem spec_l05Drawn_calls {R : Value → World → Prop} {w : World} (x0 : Addr) (h : (spec_l05Drawn (real Tryz.prog R) x0 : World → Prop) w) :
    Calls Tryz.prog n_spec_l05Drawn [(.pointer (some x0))].toArray w fun e w' => ∃ v, e = .returned v ∧ R v w' := fT_sound mixed ⟨[(4, [(5, .slice), (6, (.int .i64))])], [(32, [(9, (.int .i64))]), (64, [(83, .bool)])], [11, 13, 17, 23], []⟩ (by rw [spec_l05Drawn_eq]; exact h)

def ptr_spec_l00Src_one (C : Comb) (x0 : Addr) (x1 : Int) : C.St :=
 C.call n_ptr_spec_l00Src_pick [(.pointer (some x0)), (.int .i64 x1)] [(.int .i64)] fun r7 =>
 C.ret (.bool (r7 == 0))
theorem ptr_spec_l00Src_one_eq (C : Comb) (x0 : Addr) (x1 : Int) : fT C Tryz.prog ⟨[], [], [], []⟩ n_ptr_spec_l00Src_one [(.pointer (some x0)), (.int .i64 x1)] = ptr_spec_l00Src_one C x0 x1 := by kernel_rfl
theorem ptr_spec_l00Src_one_calls {R : Value → World → Prop} {w : World} (x0 : Addr) (x1 : Int) (h : (ptr_spec_l00Src_one (real Tryz.prog R) x0 x1 : World → Prop) w) :
    Calls Tryz.prog n_ptr_spec_l00Src_one [(.pointer (some x0)), (.int .i64 x1)].toArray w fun e w' => ∃ v, e = .returned v ∧ R v w' := fT_sound mixed ⟨[], [], [], []⟩ (by rw [ptr_spec_l00Src_one_eq]; exact h)

def spec_l01Any (C : Comb) (x0 : Addr) : C.St :=
 C.new ty_impl_Key (.agg (Array.replicate 32 (.int .u8 0))) fun b2 =>
 C.new ty_impl_Key (.agg (Array.replicate 32 (.int .u8 0))) fun b3 =>
 C.st 32 (Addr.mk b3 0 none) (.agg (Array.replicate 32 (.int .u8 0))) <|
 C.call n_ptr_spec_l00Src_pick [(.pointer (some x0)), (.int .i64 3)] [(.int .i64)] fun r7 =>
 cond (r7 == 0) (
 C.call n_ptr_spec_l00Src_pick [(.pointer (some x0)), (.int .i64 3)] [(.int .i64)] fun r11 =>
 C.call n_spec_l01Data [(.pointer (some x0)), (.int .i64 4)] [.slice] fun r14 =>
 C.call n_spec_l01Hash [(.int .u8 (IntKind.wrap .u8 (r11))), (.slice r14.a r14.n r14.c)] [.agg] fun r15 =>
 C.st 32 (Addr.mk b2 0 none) (.agg r15) <|
 C.ld .agg 32 (Addr.mk b2 0 none) fun z7 =>
 C.ret (.agg z7)
 ) (
 cond (r7 == 1) (
 C.call n_ptr_spec_l00Src_pick [(.pointer (some x0)), (.int .i64 32)] [(.int .i64)] fun r19 =>
 C.call n_ptr_spec_l00Src_pick [(.pointer (some x0)), (.int .i64 256)] [(.int .i64)] fun r21 =>
 C.ix (some (Addr.mk b3 0 none)) 32 1 r19 fun p23 =>
 C.st 1 p23 (.int .u8 (IntKind.wrap .u8 (r21))) <|
 C.ld .agg 32 (Addr.mk b3 0 none) fun v35 =>
 C.st 32 (Addr.mk b2 0 none) (.agg v35) <|
 C.ld .agg 32 (Addr.mk b2 0 none) fun z12 =>
 C.ret (.agg z12)
 ) (
 cond (r7 == 2) (
 C.loop (TL [(.int .i64)]) (embL [(.int .i64)]) [(.int .i64 0)] fun s13 ct13 => C.any fun _ =>
 cond (decide (s13 < 32)) (
 C.call n_ptr_spec_l00Src_pick [(.pointer (some x0)), (.int .i64 256)] [(.int .i64)] fun r32 =>
 C.ix (some (Addr.mk b3 0 none)) 32 1 s13 fun p34 =>
 C.st 1 p34 (.int .u8 (IntKind.wrap .u8 (r32))) <|
 ct13 [(.int .i64 (IntKind.wrap .i64 (s13 + 1)))]
 ) (
 C.ld .agg 32 (Addr.mk b3 0 none) fun v35 =>
 C.st 32 (Addr.mk b2 0 none) (.agg v35) <|
 C.ld .agg 32 (Addr.mk b2 0 none) fun z17 =>
 C.ret (.agg z17)
 )
 ) (
 C.ld .agg 32 (Addr.mk b3 0 none) fun v35 =>
 C.st 32 (Addr.mk b2 0 none) (.agg v35) <|
 C.ld .agg 32 (Addr.mk b2 0 none) fun z19 =>
 C.ret (.agg z19)
 )
 )
 )
theorem spec_l01Any_eq (C : Comb) (x0 : Addr) : fT C Tryz.prog ⟨[(9, [(4, (.int .i64))])], [], [], []⟩ n_spec_l01Any [(.pointer (some x0))] = spec_l01Any C x0 := by kernel_rfl
theorem spec_l01Any_calls {R : Value → World → Prop} {w : World} (x0 : Addr) (h : (spec_l01Any (real Tryz.prog R) x0 : World → Prop) w) :
    Calls Tryz.prog n_spec_l01Any [(.pointer (some x0))].toArray w fun e w' => ∃ v, e = .returned v ∧ R v w' := fT_sound mixed ⟨[(9, [(4, (.int .i64))])], [], [], []⟩ (by rw [spec_l01Any_eq]; exact h)

def impl_alive (C : Comb) (x0 : Array Value) (x1 : Sl) (x2 : Sl) (x3 : Int) : C.St :=
 C.new ty_impl_Store (.agg x0) fun b4 =>
 C.new ty_func_int64_bool .nilFunc fun b11 =>
 C.st 1 (Addr.mk b11 0 none) (.func (.func n_impl_alive_1) #[] #[]) <|
 C.ld .agg 1 (Addr.mk b4 0 none) fun v21 =>
 C.call n_impl_newShop [(.agg v21)] [.optr, .bool] fun r22 =>
 C.join (TL [.bool]) (embL [.bool]) (fun s6 => C.any fun _ =>
 cond s6 (
 C.ret (.tuple #[(.pointer none), (.map none), (.int .i64 1)])
 ) (
 C.join (TL [.bool]) (embL [.bool]) (fun s7 => C.any fun _ =>
 cond s7 (
 C.ret (.tuple #[(.pointer none), (.map none), (.int .i64 3)])
 ) (
 C.ld .val 1 (Addr.mk b11 0 none) fun v43 =>
 C.callV v43 [(.int .i64 x3)] [.bool] fun r45 =>
 cond (!r45) (
 C.ret (.tuple #[(.pointer none), (.map none), (.int .i64 2)])
 ) (
 C.call n_slices_Clone_sl_impl_Key_impl_Key [(.slice x1.a x1.n x1.c)] [.slice] fun r48 =>
 C.loop (TL [.slice, (.int .i64)]) (embL [.slice, (.int .i64)]) [(.slice r48.a r48.n r48.c), (.int .i64 0)] fun s11 ct11 => C.any fun _ =>
 cond (decide (s11.2 < (x2.n : Int))) (
 C.ix x2.a x2.n 33 s11.2 fun p53 =>
 C.ld .agg 33 p53 fun v54 =>
 C.new ty_impl_Lease (.agg (#[(.int .u8 0), (.int .u8 0), (.int .u8 0), (.int .u8 0), (.int .u8 0), (.int .u8 0), (.int .u8 0), (.int .u8 0), (.int .u8 0), (.int .u8 0), (.int .u8 0), (.int .u8 0), (.int .u8 0), (.int .u8 0), (.int .u8 0), (.int .u8 0), (.int .u8 0), (.int .u8 0), (.int .u8 0), (.int .u8 0), (.int .u8 0), (.int .u8 0), (.int .u8 0), (.int .u8 0), (.int .u8 0), (.int .u8 0), (.int .u8 0), (.int .u8 0), (.int .u8 0), (.int .u8 0), (.int .u8 0), (.int .u8 0), (.int .i64 0)])) fun b16 =>
 C.st 33 (Addr.mk b16 0 none) (.agg v54) <|
 C.ld (.int .i64) 1 ((Addr.mk b16 0 none).add 32) fun v56 =>
 cond (decide (v56 ≥ x3)) (
 C.ld .agg 32 ((Addr.mk b16 0 none).add 0) fun v61 =>
 C.sem (Instr.buildSlice ty_sl_impl_Key 1 #[(0, (.agg v61))]) .slice fun y62 =>
 C.sem (Builtin.append_ #[ty_sl_impl_Key, ty_sl_impl_Key] ty_sl_impl_Key #[(.slice s11.1.a s11.1.n s11.1.c), (.slice y62.a y62.n y62.c)]) .slice fun y63 =>
 ct11 [(.slice y63.a y63.n y63.c), (.int .i64 (IntKind.wrap .i64 (s11.2 + 1)))]
 ) (
 ct11 [(.slice s11.1.a s11.1.n s11.1.c), (.int .i64 (IntKind.wrap .i64 (s11.2 + 1)))]
 )
 ) (
 C.sem (Instr.makeMap ty_map_impl_Key_bool none) .val fun y65 =>
 C.call n_ptr_impl_shop_reach [(.pointer r22.1), (.slice s11.1.a s11.1.n s11.1.c)] [.slice] fun r68 =>
 C.loop (TL [(.int .i64)]) (embL [(.int .i64)]) [(.int .i64 0)] fun s21 ct21 => C.any fun _ =>
 cond (decide (s21 < (r68.n : Int))) (
 C.ix r68.a r68.n 32 s21 fun p72 =>
 C.ld .agg 32 p72 fun v73 =>
 C.new ty_impl_Key (.agg (Array.replicate 32 (.int .u8 0))) fun b19 =>
 C.st 32 (Addr.mk b19 0 none) (.agg v73) <|
 C.ld .agg 32 (Addr.mk b19 0 none) fun v75 =>
 C.eff (Instr.mapUpdate ty_map_impl_Key_bool y65 (.agg v75) (.bool true)) <|
 ct21 [(.int .i64 (IntKind.wrap .i64 (s21 + 1)))]
 ) (
 C.ret (.tuple #[(.pointer r22.1), y65, (.int .i64 0)])
 )
 )
 )
 )
 ) fun jt =>
 cond (decide ((x1.n : Int) > 256)) (
 jt [(.bool true)]
 ) (
 jt [(.bool (decide ((x2.n : Int) > 32)))]
 )
 )
 ) fun jt =>
 cond (!r22.2) (
 jt [(.bool true)]
 ) (
 C.call n_slices_ContainsFunc_sl_impl_Lease_impl_Lease [(.slice x2.a x2.n x2.c), (.func (.func n_impl_alive_2) #[] #[(.pointer (some (Addr.mk b11 0 none)))])] [.bool] fun r31 =>
 jt [(.bool r31)]
 )
theorem impl_alive_eq (C : Comb) (x0 : Array Value) (x1 : Sl) (x2 : Sl) (x3 : Int) : fT C Tryz.prog ⟨[(11, [(14, .slice), (51, (.int .i64))]), (18, [(70, (.int .i64))])], [(10, [(25, .bool)]), (16, [(33, .bool)])], [], []⟩ n_impl_alive [(.agg x0), (.slice x1.a x1.n x1.c), (.slice x2.a x2.n x2.c), (.int .i64 x3)] = impl_alive C x0 x1 x2 x3 := by kernel_rfl
theorem impl_alive_calls {R : Value → World → Prop} {w : World} (x0 : Array Value) (x1 : Sl) (x2 : Sl) (x3 : Int) (h : (impl_alive (real Tryz.prog R) x0 x1 x2 x3 : World → Prop) w) :
    Calls Tryz.prog n_impl_alive [(.agg x0), (.slice x1.a x1.n x1.c), (.slice x2.a x2.n x2.c), (.int .i64 x3)].toArray w fun e w' => ∃ v, e = .returned v ∧ R v w' := fT_sound mixed ⟨[(11, [(14, .slice), (51, (.int .i64))]), (18, [(70, (.int .i64))])], [(10, [(25, .bool)]), (16, [(33, .bool)])], [], []⟩ (by rw [impl_alive_eq]; exact h)

def ptr_impl_shop_kept (C : Comb) (x0 : Addr) (x1 : Value) : C.St :=
 C.new ty_impl_Store (.agg (#[(.slice none 0 0)])) fun b4 =>
 C.pur (Instr.build ty_impl_shop #[]) .agg fun y8 =>
 C.new ty_impl_shop (.agg y8) fun b9 =>
 C.ld .slice 1 (x0.add 0) fun v13 =>
 C.loop (TL [(.int .i64)]) (embL [(.int .i64)]) [(.int .i64 0)] fun s5 ct5 => C.any fun _ =>
 cond (decide (s5 < (v13.n : Int))) (
 C.ix v13.a v13.n 32 s5 fun p18 =>
 C.ld .agg 32 p18 fun v19 =>
 C.new ty_impl_Key (.agg (Array.replicate 32 (.int .u8 0))) fun b7 =>
 C.st 32 (Addr.mk b7 0 none) (.agg v19) <|
 C.ld .agg 32 (Addr.mk b7 0 none) fun v21 =>
 C.callV x1 [(.agg v21)] [.bool] fun r22 =>
 cond r22 (
 C.draw <|
 C.ld .slice 1 ((Addr.mk b9 0 none).add 1) fun v27 =>
 C.ld .slice 1 (x0.add 1) fun v31 =>
 C.ix v31.a v31.n 2 s5 fun p33 =>
 C.ld .agg 2 p33 fun v34 =>
 C.sem (Instr.buildSlice ty_sl_impl_Blob 1 #[(0, (.agg v34))]) .slice fun y35 =>
 C.chk [⟨8, 1, (x0.add 1), .slice, v31⟩, ⟨4, 1, ((Addr.mk b9 0 none).add 1), .slice, v27⟩] <|
 C.sem (Builtin.append_ #[ty_sl_impl_Blob, ty_sl_impl_Blob] ty_sl_impl_Blob #[(.slice v27.a v27.n v27.c), (.slice y35.a y35.n y35.c)]) .slice fun y36 =>
 C.chk [⟨8, 1, (x0.add 1), .slice, v31⟩] <|
 C.st 1 ((Addr.mk b9 0 none).add 1) (.slice y36.a y36.n y36.c) <|
 ct5 [(.int .i64 (IntKind.wrap .i64 (s5 + 1)))]
 ) (
 ct5 [(.int .i64 (IntKind.wrap .i64 (s5 + 1)))]
 )
 ) (
 C.call n_ptr_impl_shop_store [(.pointer (some (Addr.mk b9 0 none)))] [.agg] fun r41 =>
 C.st 1 (Addr.mk b4 0 none) (.agg r41) <|
 C.ld .agg 1 (Addr.mk b4 0 none) fun z18 =>
 C.ret (.agg z18)
 )
theorem ptr_impl_shop_kept_eq (C : Comb) (x0 : Addr) (x1 : Value) : fT C Tryz.prog ⟨[(3, [(15, (.int .i64))])], [], [6], []⟩ n_ptr_impl_shop_kept [(.pointer (some x0)), x1] = ptr_impl_shop_kept C x0 x1 := by kernel_rfl
theorem ptr_impl_shop_kept_calls {R : Value → World → Prop} {w : World} (x0 : Addr) (x1 : Value) (h : (ptr_impl_shop_kept (real Tryz.prog R) x0 x1 : World → Prop) w) :
    Calls Tryz.prog n_ptr_impl_shop_kept [(.pointer (some x0)), x1].toArray w fun e w' => ∃ v, e = .returned v ∧ R v w' := fT_sound mixed ⟨[(3, [(15, (.int .i64))])], [], [6], []⟩ (by rw [ptr_impl_shop_kept_eq]; exact h)

def impl_Collect_1 (C : Comb) (x0 : Array Value) (x1 : Addr) : C.St :=
 C.new ty_impl_Key (.agg x0) fun b2 =>
 C.ld .val 1 x1 fun v4 =>
 C.ld .agg 32 (Addr.mk b2 0 none) fun v5 =>
 C.semL (Instr.lookup ty_map_impl_Key_bool v4 (.agg v5) false) [.bool] fun y6 =>
 C.ret (.bool y6)
theorem impl_Collect_1_eq (C : Comb) (x0 : Array Value) (x1 : Addr) : fT C Tryz.prog ⟨[], [], [], []⟩ n_impl_Collect_1 [(.agg x0), (.pointer (some x1))] = impl_Collect_1 C x0 x1 := by kernel_rfl
theorem impl_Collect_1_calls {R : Value → World → Prop} {w : World} (x0 : Array Value) (x1 : Addr) (h : (impl_Collect_1 (real Tryz.prog R) x0 x1 : World → Prop) w) :
    Calls Tryz.prog n_impl_Collect_1 [(.agg x0), (.pointer (some x1))].toArray w fun e w' => ∃ v, e = .returned v ∧ R v w' := fT_sound mixed ⟨[], [], [], []⟩ (by rw [impl_Collect_1_eq]; exact h)

def spec_l05Needed (C : Comb) (x0 : Addr) (x1 : Sl) (x2 : Sl) (x3 : Int) : C.St :=
 C.call n_spec_l05Open [(.pointer (some x0))] [.optr, .bool] fun r20 =>
 C.join (TL [.bool]) (embL [.bool]) (fun s6 => C.any fun _ =>
 cond (!s6) (
 C.sem (Instr.buildSlice ty_sl_bool 0 #[]) .slice fun y39 =>
 C.ret (.tuple #[(.pointer r20.1), (.slice y39.a y39.n y39.c), (.int .i64 1)])
 ) (
 C.join (TL []) (embL []) (fun s10 => C.any fun _ =>
 C.call n_spec_l00In [(.int .i64 x3), (.int .i64 0), (.int .i64 1000000000000)] [.bool] fun r51 =>
 cond (!r51) (
 C.sem (Instr.buildSlice ty_sl_bool 0 #[]) .slice fun y54 =>
 C.ret (.tuple #[(.pointer r20.1), (.slice y54.a y54.n y54.c), (.int .i64 2)])
 ) (
 C.sem (Instr.buildSlice ty_sl_impl_Key 0 #[]) .slice fun y55 =>
 C.sem (Builtin.append_ #[ty_sl_impl_Key, ty_sl_impl_Key] ty_sl_impl_Key #[(.slice y55.a y55.n y55.c), (.slice x1.a x1.n x1.c)]) .slice fun y57 =>
 C.loop (TL [.slice, (.int .i64)]) (embL [.slice, (.int .i64)]) [(.slice y57.a y57.n y57.c), (.int .i64 0)] fun s15 ct15 => C.any fun _ =>
 cond (decide (s15.2 < (x2.n : Int))) (
 C.ix x2.a x2.n 33 s15.2 fun p66 =>
 C.ld (.int .i64) 1 (p66.add 32) fun v68 =>
 cond (decide (v68 ≥ x3)) (
 C.ix x2.a x2.n 33 s15.2 fun p74 =>
 C.ld .agg 32 (p74.add 0) fun v76 =>
 C.sem (Instr.buildSlice ty_sl_impl_Key 1 #[(0, (.agg v76))]) .slice fun y77 =>
 C.sem (Builtin.append_ #[ty_sl_impl_Key, ty_sl_impl_Key] ty_sl_impl_Key #[(.slice s15.1.a s15.1.n s15.1.c), (.slice y77.a y77.n y77.c)]) .slice fun y78 =>
 ct15 [(.slice y78.a y78.n y78.c), (.int .i64 (IntKind.wrap .i64 (s15.2 + 1)))]
 ) (
 ct15 [(.slice s15.1.a s15.1.n s15.1.c), (.int .i64 (IntKind.wrap .i64 (s15.2 + 1)))]
 )
 ) (
 C.call n_ptr_spec_l05Store_reach [(.pointer r20.1), (.slice s15.1.a s15.1.n s15.1.c)] [.slice, .slice] fun r82 =>
 C.ret (.tuple #[(.pointer r20.1), (.slice r82.1.a r82.1.n r82.1.c), (.int .i64 0)])
 )
 )
 ) fun jt =>
 cond (decide ((x1.n : Int) > 256)) (
 C.sem (Instr.buildSlice ty_sl_bool 0 #[]) .slice fun y49 =>
 C.ret (.tuple #[(.pointer r20.1), (.slice y49.a y49.n y49.c), (.int .i64 3)])
 ) (
 cond (decide ((x2.n : Int) > 32)) (
 C.sem (Instr.buildSlice ty_sl_bool 0 #[]) .slice fun y49 =>
 C.ret (.tuple #[(.pointer r20.1), (.slice y49.a y49.n y49.c), (.int .i64 3)])
 ) (
 jt []
 )
 )
 )
 ) fun jt =>
 C.loop (TL [.bool, (.int .i64)]) (embL [.bool, (.int .i64)]) [(.bool r20.2), (.int .i64 0)] fun s2 ct2 => C.any fun _ =>
 C.join (TL []) (embL []) (fun s3 => C.any fun _ =>
 C.ix x2.a x2.n 33 s2.2 fun p34 =>
 C.call n_spec_l05Lease [(.pointer (some p34))] [.bool] fun r35 =>
 ct2 [(.bool r35), (.int .i64 (IntKind.wrap .i64 (s2.2 + 1)))]
 ) fun jt1 =>
 cond (decide (s2.2 < (x2.n : Int))) (
 cond s2.1 (
 jt1 []
 ) (
 jt [(.bool s2.1)]
 )
 ) (
 jt [(.bool s2.1)]
 )
theorem spec_l05Needed_eq (C : Comb) (x0 : Addr) (x1 : Sl) (x2 : Sl) (x3 : Int) : fT C Tryz.prog ⟨[(3, [(12, .bool), (13, (.int .i64))]), (14, [(14, .slice), (15, (.int .i64))])], [(87, []), (11, [(12, .bool)]), (141, [])], [], []⟩ n_spec_l05Needed [(.pointer (some x0)), (.slice x1.a x1.n x1.c), (.slice x2.a x2.n x2.c), (.int .i64 x3)] = spec_l05Needed C x0 x1 x2 x3 := by kernel_rfl
theorem spec_l05Needed_calls {R : Value → World → Prop} {w : World} (x0 : Addr) (x1 : Sl) (x2 : Sl) (x3 : Int) (h : (spec_l05Needed (real Tryz.prog R) x0 x1 x2 x3 : World → Prop) w) :
    Calls Tryz.prog n_spec_l05Needed [(.pointer (some x0)), (.slice x1.a x1.n x1.c), (.slice x2.a x2.n x2.c), (.int .i64 x3)].toArray w fun e w' => ∃ v, e = .returned v ∧ R v w' := fT_sound mixed ⟨[(3, [(12, .bool), (13, (.int .i64))]), (14, [(14, .slice), (15, (.int .i64))])], [(87, []), (11, [(12, .bool)]), (141, [])], [], []⟩ (by rw [spec_l05Needed_eq]; exact h)

def ptr_spec_l05Store_keep (C : Comb) (x0 : Addr) (x1 : Sl) : C.St :=
 C.pur (Instr.build ty_spec_l05Store #[]) .agg fun y7 =>
 C.new ty_spec_l05Store (.agg y7) fun b8 =>
 C.loop (TL [(.int .i64)]) (embL [(.int .i64)]) [(.int .i64 0)] fun s3 ct3 => C.any fun _ =>
 cond (decide (s3 < (x1.n : Int))) (
 C.ix x1.a x1.n 1 s3 fun p17 =>
 C.ld .bool 1 p17 fun v18 =>
 cond v18 (
 C.join (TL []) (embL []) (fun s12 => C.any fun _ =>
 C.draw <|
 C.ld .slice 1 ((Addr.mk b8 0 none).add 1) fun v39 =>
 C.ld .slice 1 (x0.add 1) fun v43 =>
 C.ix v43.a v43.n 32 s3 fun p45 =>
 C.ld .agg 32 p45 fun v46 =>
 C.sem (Instr.buildSlice ty_sl_impl_Key 1 #[(0, (.agg v46))]) .slice fun y47 =>
 C.chk [⟨8, 1, (x0.add 1), .slice, v43⟩, ⟨4, 1, ((Addr.mk b8 0 none).add 1), .slice, v39⟩] <|
 C.sem (Builtin.append_ #[ty_sl_impl_Key, ty_sl_impl_Key] ty_sl_impl_Key #[(.slice v39.a v39.n v39.c), (.slice y47.a y47.n y47.c)]) .slice fun y48 =>
 C.chk [⟨8, 1, (x0.add 1), .slice, v43⟩] <|
 C.st 1 ((Addr.mk b8 0 none).add 1) (.slice y48.a y48.n y48.c) <|
 ct3 [(.int .i64 (IntKind.wrap .i64 (s3 + 1)))]
 ) fun jt =>
 C.draw <|
 C.ld .slice 1 ((Addr.mk b8 0 none).add 0) fun v23 =>
 C.ld .slice 1 (x0.add 0) fun v27 =>
 C.ix v27.a v27.n 2 s3 fun p29 =>
 C.ld .agg 2 p29 fun v30 =>
 C.sem (Instr.buildSlice ty_sl_impl_Blob 1 #[(0, (.agg v30))]) .slice fun y31 =>
 C.chk [⟨8, 1, (x0.add 0), .slice, v27⟩, ⟨4, 1, ((Addr.mk b8 0 none).add 0), .slice, v23⟩] <|
 C.sem (Builtin.append_ #[ty_sl_impl_Blob, ty_sl_impl_Blob] ty_sl_impl_Blob #[(.slice v23.a v23.n v23.c), (.slice y31.a y31.n y31.c)]) .slice fun y32 =>
 C.chk [⟨8, 1, (x0.add 0), .slice, v27⟩] <|
 C.st 1 ((Addr.mk b8 0 none).add 0) (.slice y32.a y32.n y32.c) <|
 jt []
 ) (
 ct3 [(.int .i64 (IntKind.wrap .i64 (s3 + 1)))]
 )
 ) (
 C.ret (.pointer (some (Addr.mk b8 0 none)))
 )
theorem ptr_spec_l05Store_keep_eq (C : Comb) (x0 : Addr) (x1 : Sl) : fT C Tryz.prog ⟨[(3, [(6, (.int .i64))])], [(19, [])], [6, 7], []⟩ n_ptr_spec_l05Store_keep [(.pointer (some x0)), (.slice x1.a x1.n x1.c)] = ptr_spec_l05Store_keep C x0 x1 := by kernel_rfl
theorem ptr_spec_l05Store_keep_calls {R : Value → World → Prop} {w : World} (x0 : Addr) (x1 : Sl) (h : (ptr_spec_l05Store_keep (real Tryz.prog R) x0 x1 : World → Prop) w) :
    Calls Tryz.prog n_ptr_spec_l05Store_keep [(.pointer (some x0)), (.slice x1.a x1.n x1.c)].toArray w fun e w' => ∃ v, e = .returned v ∧ R v w' := fT_sound mixed ⟨[(3, [(6, (.int .i64))])], [(19, [])], [6, 7], []⟩ (by rw [ptr_spec_l05Store_keep_eq]; exact h)

def ptr_spec_l05Store_store (C : Comb) (x0 : Addr) : C.St :=
 C.new ty_impl_Store (.agg (#[(.slice none 0 0)])) fun b2 =>
 C.pur (Instr.build ty_impl_Store #[]) .agg fun y5 =>
 C.new ty_impl_Store (.agg (#[(.slice none 0 0)])) fun b3 =>
 C.st 1 (Addr.mk b3 0 none) (.agg y5) <|
 C.loop (TL [(.int .i64)]) (embL [(.int .i64)]) [(.int .i64 0)] fun s4 ct4 => C.any fun _ =>
 C.ld .slice 1 (x0.add 0) fun v10 =>
 cond (decide (s4 < (v10.n : Int))) (
 C.draw <|
 C.ld .slice 1 ((Addr.mk b3 0 none).add 0) fun v16 =>
 C.ld .slice 1 (x0.add 0) fun v20 =>
 C.ix v20.a v20.n 2 s4 fun p22 =>
 C.ld .agg 2 p22 fun v23 =>
 C.call n_spec_l05Copy [(.agg v23)] [.agg] fun r24 =>
 C.chk [⟨5, 1, (x0.add 0), .slice, v20⟩, ⟨1, 1, ((Addr.mk b3 0 none).add 0), .slice, v16⟩] <|
 C.sem (Instr.buildSlice ty_sl_impl_Blob 1 #[(0, (.agg r24))]) .slice fun y25 =>
 C.chk [⟨5, 1, (x0.add 0), .slice, v20⟩, ⟨1, 1, ((Addr.mk b3 0 none).add 0), .slice, v16⟩] <|
 C.sem (Builtin.append_ #[ty_sl_impl_Blob, ty_sl_impl_Blob] ty_sl_impl_Blob #[(.slice v16.a v16.n v16.c), (.slice y25.a y25.n y25.c)]) .slice fun y26 =>
 C.chk [⟨5, 1, (x0.add 0), .slice, v20⟩] <|
 C.st 1 ((Addr.mk b3 0 none).add 0) (.slice y26.a y26.n y26.c) <|
 ct4 [(.int .i64 (IntKind.wrap .i64 (s4 + 1)))]
 ) (
 C.ld .agg 1 (Addr.mk b3 0 none) fun v28 =>
 C.st 1 (Addr.mk b2 0 none) (.agg v28) <|
 C.ld .agg 1 (Addr.mk b2 0 none) fun z14 =>
 C.ret (.agg z14)
 )
theorem ptr_spec_l05Store_store_eq (C : Comb) (x0 : Addr) : fT C Tryz.prog ⟨[(3, [(4, (.int .i64))])], [], [5], []⟩ n_ptr_spec_l05Store_store [(.pointer (some x0))] = ptr_spec_l05Store_store C x0 := by kernel_rfl
theorem ptr_spec_l05Store_store_calls {R : Value → World → Prop} {w : World} (x0 : Addr) (h : (ptr_spec_l05Store_store (real Tryz.prog R) x0 : World → Prop) w) :
    Calls Tryz.prog n_ptr_spec_l05Store_store [(.pointer (some x0))].toArray w fun e w' => ∃ v, e = .returned v ∧ R v w' := fT_sound mixed ⟨[(3, [(4, (.int .i64))])], [], [5], []⟩ (by rw [ptr_spec_l05Store_store_eq]; exact h)

def impl_DeadIn_1 (C : Comb) (x0 : Array Value) (x1 : Addr) : C.St :=
 C.new ty_impl_Key (.agg x0) fun b2 =>
 C.ld .val 1 x1 fun v4 =>
 C.ld .agg 32 (Addr.mk b2 0 none) fun v5 =>
 C.semL (Instr.lookup ty_map_impl_Key_bool v4 (.agg v5) false) [.bool] fun y6 =>
 C.ret (.bool y6)
theorem impl_DeadIn_1_eq (C : Comb) (x0 : Array Value) (x1 : Addr) : fT C Tryz.prog ⟨[], [], [], []⟩ n_impl_DeadIn_1 [(.agg x0), (.pointer (some x1))] = impl_DeadIn_1 C x0 x1 := by kernel_rfl
theorem impl_DeadIn_1_calls {R : Value → World → Prop} {w : World} (x0 : Array Value) (x1 : Addr) (h : (impl_DeadIn_1 (real Tryz.prog R) x0 x1 : World → Prop) w) :
    Calls Tryz.prog n_impl_DeadIn_1 [(.agg x0), (.pointer (some x1))].toArray w fun e w' => ∃ v, e = .returned v ∧ R v w' := fT_sound mixed ⟨[], [], [], []⟩ (by rw [impl_DeadIn_1_eq]; exact h)

def impl_reachCode (C : Comb) (x0 : Array Value) (x1 : Sl) : C.St :=
 C.new ty_impl_Store (.agg x0) fun b2 =>
 C.ld .agg 1 (Addr.mk b2 0 none) fun v9 =>
 C.call n_impl_newShop [(.agg v9)] [.optr, .bool] fun r10 =>
 cond (!r10.2) (
 C.ret (.tuple #[(.pointer none), (.int .i64 1)])
 ) (
 C.call n_slices_ContainsFunc_sl_sl_impl_Key_sl_impl_Key [(.slice x1.a x1.n x1.c), (.func (.func n_impl_reachCode_1) #[] #[])] [.bool] fun r18 =>
 cond r18 (
 C.ret (.tuple #[(.pointer none), (.int .i64 3)])
 ) (
 C.ret (.tuple #[(.pointer r10.1), (.int .i64 0)])
 )
 )
theorem impl_reachCode_eq (C : Comb) (x0 : Array Value) (x1 : Sl) : fT C Tryz.prog ⟨[], [], [], []⟩ n_impl_reachCode [(.agg x0), (.slice x1.a x1.n x1.c)] = impl_reachCode C x0 x1 := by kernel_rfl
theorem impl_reachCode_calls {R : Value → World → Prop} {w : World} (x0 : Array Value) (x1 : Sl) (h : (impl_reachCode (real Tryz.prog R) x0 x1 : World → Prop) w) :
    Calls Tryz.prog n_impl_reachCode [(.agg x0), (.slice x1.a x1.n x1.c)].toArray w fun e w' => ∃ v, e = .returned v ∧ R v w' := fT_sound mixed ⟨[], [], [], []⟩ (by rw [impl_reachCode_eq]; exact h)

def ptr_impl_shop_reached (C : Comb) (x0 : Addr) (x1 : Sl) (x2 : Bool) : C.St :=
 C.new ty_ptr_impl_shop (.pointer (some x0)) fun b3 =>
 C.new ty_bool (.bool x2) fun b5 =>
 C.ld .ptr 1 (Addr.mk b3 0 none) fun v7 =>
 C.call n_ptr_impl_shop_reach [(.pointer (some v7)), (.slice x1.a x1.n x1.c)] [.slice] fun r9 =>
 C.call n_slices_DeleteFunc_sl_impl_Key_impl_Key [(.slice r9.a r9.n r9.c), (.func (.func n_ptr_impl_shop_reached_1) #[] #[(.pointer (some (Addr.mk b3 0 none))), (.pointer (some (Addr.mk b5 0 none)))])] [.slice] fun r11 =>
 C.call n_impl_sorted [(.slice r11.a r11.n r11.c)] [.slice] fun r12 =>
 C.ret (.slice r12.a r12.n r12.c)
theorem ptr_impl_shop_reached_eq (C : Comb) (x0 : Addr) (x1 : Sl) (x2 : Bool) : fT C Tryz.prog ⟨[], [], [], []⟩ n_ptr_impl_shop_reached [(.pointer (some x0)), (.slice x1.a x1.n x1.c), (.bool x2)] = ptr_impl_shop_reached C x0 x1 x2 := by kernel_rfl
theorem ptr_impl_shop_reached_calls {R : Value → World → Prop} {w : World} (x0 : Addr) (x1 : Sl) (x2 : Bool) (h : (ptr_impl_shop_reached (real Tryz.prog R) x0 x1 x2 : World → Prop) w) :
    Calls Tryz.prog n_ptr_impl_shop_reached [(.pointer (some x0)), (.slice x1.a x1.n x1.c), (.bool x2)].toArray w fun e w' => ∃ v, e = .returned v ∧ R v w' := fT_sound mixed ⟨[], [], [], []⟩ (by rw [ptr_impl_shop_reached_eq]; exact h)

def impl_newShop (C : Comb) (x0 : Array Value) : C.St :=
 C.new ty_impl_Store (.agg x0) fun b1 =>
 C.ld .agg 1 (Addr.mk b1 0 none) fun v4 =>
 C.call n_impl_ValidStore [(.agg v4)] [.bool] fun r5 =>
 cond (!r5) (
 C.ret (.tuple #[(.pointer none), (.bool false)])
 ) (
 C.draw <|
 C.ld .agg 1 (Addr.mk b1 0 none) fun v7 =>
 C.ld .slice 1 ((Addr.mk b1 0 none).add 0) fun v10 =>
 C.call n_impl_Store_keys [(.agg v7)] [.slice] fun r8 =>
 C.chk [⟨3, 1, ((Addr.mk b1 0 none).add 0), .slice, v10⟩] <|
 C.call n_slices_Clone_sl_impl_Blob_impl_Blob [(.slice v10.a v10.n v10.c)] [.slice] fun r11 =>
 C.pur (Instr.build ty_impl_shop #[(0, (.slice r8.a r8.n r8.c)), (1, (.slice r11.a r11.n r11.c))]) .agg fun y12 =>
 C.new ty_impl_shop (.agg y12) fun b13 =>
 C.ret (.tuple #[(.pointer (some (Addr.mk b13 0 none))), (.bool true)])
 )
theorem impl_newShop_eq (C : Comb) (x0 : Array Value) : fT C Tryz.prog ⟨[], [], [3], []⟩ n_impl_newShop [(.agg x0)] = impl_newShop C x0 := by kernel_rfl
theorem impl_newShop_calls {R : Value → World → Prop} {w : World} (x0 : Array Value) (h : (impl_newShop (real Tryz.prog R) x0 : World → Prop) w) :
    Calls Tryz.prog n_impl_newShop [(.agg x0)].toArray w fun e w' => ∃ v, e = .returned v ∧ R v w' := fT_sound mixed ⟨[], [], [3], []⟩ (by rw [impl_newShop_eq]; exact h)

def spec_l05Asked (C : Comb) (x0 : Addr) (x1 : Sl) : C.St :=
 C.call n_spec_l05Open [(.pointer (some x0))] [.optr, .bool] fun r10 =>
 cond (!r10.2) (
 C.ret (.tuple #[(.pointer r10.1), (.int .i64 1)])
 ) (
 cond (decide ((x1.n : Int) > 256)) (
 C.ret (.tuple #[(.pointer r10.1), (.int .i64 3)])
 ) (
 C.ret (.tuple #[(.pointer r10.1), (.int .i64 0)])
 )
 )
theorem spec_l05Asked_eq (C : Comb) (x0 : Addr) (x1 : Sl) : fT C Tryz.prog ⟨[], [], [], []⟩ n_spec_l05Asked [(.pointer (some x0)), (.slice x1.a x1.n x1.c)] = spec_l05Asked C x0 x1 := by kernel_rfl
theorem spec_l05Asked_calls {R : Value → World → Prop} {w : World} (x0 : Addr) (x1 : Sl) (h : (spec_l05Asked (real Tryz.prog R) x0 x1 : World → Prop) w) :
    Calls Tryz.prog n_spec_l05Asked [(.pointer (some x0)), (.slice x1.a x1.n x1.c)].toArray w fun e w' => ∃ v, e = .returned v ∧ R v w' := fT_sound mixed ⟨[], [], [], []⟩ (by rw [spec_l05Asked_eq]; exact h)

def ptr_spec_l05Store_reach (C : Comb) (x0 : Addr) (x1 : Sl) : C.St :=
 C.ld .slice 1 (x0.add 1) fun v14 =>
 C.sem (Instr.makeSlice ty_sl_bool (.int .i64 (v14.n : Int)) (.int .i64 (v14.n : Int))) .slice fun y16 =>
 C.sem (Instr.buildSlice ty_sl_impl_Key 0 #[]) .slice fun y17 =>
 C.sem (Instr.buildSlice ty_sl_impl_Key 0 #[]) .slice fun y18 =>
 C.sem (Builtin.append_ #[ty_sl_impl_Key, ty_sl_impl_Key] ty_sl_impl_Key #[(.slice y18.a y18.n y18.c), (.slice x1.a x1.n x1.c)]) .slice fun y20 =>
 C.loop (TL [.slice, .slice, (.int .i64)]) (embL [.slice, .slice, (.int .i64)]) [(.slice y17.a y17.n y17.c), (.slice y20.a y20.n y20.c), (.int .i64 0)] fun s6 ct6 => C.any fun _ =>
 cond (decide (s6.2.2 < (s6.2.1.n : Int))) (
 C.ix s6.2.1.a s6.2.1.n 32 s6.2.2 fun p30 =>
 C.ld .agg 32 p30 fun v31 =>
 C.call n_ptr_spec_l05Store_find [(.pointer (some x0)), (.agg v31)] [(.int .i64)] fun r32 =>
 cond (decide (r32 < 0)) (
 C.ix s6.2.1.a s6.2.1.n 32 s6.2.2 fun p38 =>
 C.ld .agg 32 p38 fun v39 =>
 C.call n_spec_l01Has [(.slice s6.1.a s6.1.n s6.1.c), (.agg v39)] [.bool] fun r40 =>
 cond (!r40) (
 C.ix s6.2.1.a s6.2.1.n 32 s6.2.2 fun p45 =>
 C.ld .agg 32 p45 fun v46 =>
 C.sem (Instr.buildSlice ty_sl_impl_Key 1 #[(0, (.agg v46))]) .slice fun y47 =>
 C.sem (Builtin.append_ #[ty_sl_impl_Key, ty_sl_impl_Key] ty_sl_impl_Key #[(.slice s6.1.a s6.1.n s6.1.c), (.slice y47.a y47.n y47.c)]) .slice fun y48 =>
 ct6 [(.slice y48.a y48.n y48.c), (.slice s6.2.1.a s6.2.1.n s6.2.1.c), (.int .i64 (IntKind.wrap .i64 (s6.2.2 + 1)))]
 ) (
 ct6 [(.slice s6.1.a s6.1.n s6.1.c), (.slice s6.2.1.a s6.2.1.n s6.2.1.c), (.int .i64 (IntKind.wrap .i64 (s6.2.2 + 1)))]
 )
 ) (
 C.ix y16.a y16.n 1 r32 fun p51 =>
 C.ld .bool 1 p51 fun v52 =>
 cond (!v52) (
 C.ix y16.a y16.n 1 r32 fun p56 =>
 C.st 1 p56 (.bool true) <|
 C.ld .slice 1 (x0.add 0) fun v61 =>
 C.ix v61.a v61.n 2 r32 fun p63 =>
 C.call n_spec_l05Links [(.pointer (some p63))] [.slice] fun r64 =>
 C.sem (Builtin.append_ #[ty_sl_impl_Key, ty_sl_impl_Key] ty_sl_impl_Key #[(.slice s6.2.1.a s6.2.1.n s6.2.1.c), (.slice r64.a r64.n r64.c)]) .slice fun y65 =>
 ct6 [(.slice s6.1.a s6.1.n s6.1.c), (.slice y65.a y65.n y65.c), (.int .i64 (IntKind.wrap .i64 (s6.2.2 + 1)))]
 ) (
 ct6 [(.slice s6.1.a s6.1.n s6.1.c), (.slice s6.2.1.a s6.2.1.n s6.2.1.c), (.int .i64 (IntKind.wrap .i64 (s6.2.2 + 1)))]
 )
 )
 ) (
 C.ret (.tuple #[(.slice y16.a y16.n y16.c), (.slice s6.1.a s6.1.n s6.1.c)])
 )
theorem ptr_spec_l05Store_reach_eq (C : Comb) (x0 : Addr) (x1 : Sl) : fT C Tryz.prog ⟨[(5, [(7, .slice), (8, .slice), (9, (.int .i64))])], [], [], []⟩ n_ptr_spec_l05Store_reach [(.pointer (some x0)), (.slice x1.a x1.n x1.c)] = ptr_spec_l05Store_reach C x0 x1 := by kernel_rfl
theorem ptr_spec_l05Store_reach_calls {R : Value → World → Prop} {w : World} (x0 : Addr) (x1 : Sl) (h : (ptr_spec_l05Store_reach (real Tryz.prog R) x0 x1 : World → Prop) w) :
    Calls Tryz.prog n_ptr_spec_l05Store_reach [(.pointer (some x0)), (.slice x1.a x1.n x1.c)].toArray w fun e w' => ∃ v, e = .returned v ∧ R v w' := fT_sound mixed ⟨[(5, [(7, .slice), (8, .slice), (9, (.int .i64))])], [], [], []⟩ (by rw [ptr_spec_l05Store_reach_eq]; exact h)

def spec_l05Ascending (C : Comb) (x0 : Sl) : C.St :=
 C.call n_spec_l01Sort [(.slice x0.a x0.n x0.c), (.agg (Array.replicate 32 (.int .u8 0)))] [.slice] fun r5 =>
 C.ret (.slice r5.a r5.n r5.c)
theorem spec_l05Ascending_eq (C : Comb) (x0 : Sl) : fT C Tryz.prog ⟨[], [], [], []⟩ n_spec_l05Ascending [(.slice x0.a x0.n x0.c)] = spec_l05Ascending C x0 := by kernel_rfl
theorem spec_l05Ascending_calls {R : Value → World → Prop} {w : World} (x0 : Sl) (h : (spec_l05Ascending (real Tryz.prog R) x0 : World → Prop) w) :
    Calls Tryz.prog n_spec_l05Ascending [(.slice x0.a x0.n x0.c)].toArray w fun e w' => ∃ v, e = .returned v ∧ R v w' := fT_sound mixed ⟨[], [], [], []⟩ (by rw [spec_l05Ascending_eq]; exact h)

def impl_keysIn (C : Comb) (x0 : Sl) : C.St :=
 C.sem (Instr.buildSlice ty_sl_impl_Key 0 #[]) .slice fun y4 =>
 C.loop (TL [.slice, .slice]) (embL [.slice, .slice]) [(.slice x0.a x0.n x0.c), (.slice y4.a y4.n y4.c)] fun s2 ct2 => C.any fun _ =>
 cond (decide ((s2.1.n : Int) ≥ 32)) (
 C.pur (Instr.arrayAt ty_impl_Key (.slice s2.1.a s2.1.n s2.1.c)) .ptr fun y10 =>
 C.ld .agg 32 y10 fun v11 =>
 C.sem (Instr.buildSlice ty_sl_impl_Key 1 #[(0, (.agg v11))]) .slice fun y12 =>
 C.sem (Builtin.append_ #[ty_sl_impl_Key, ty_sl_impl_Key] ty_sl_impl_Key #[(.slice s2.2.a s2.2.n s2.2.c), (.slice y12.a y12.n y12.c)]) .slice fun y13 =>
 C.sl s2.1.a s2.1.n s2.1.c 1 (some 32) none none fun y15 =>
 ct2 [(.slice y15.a y15.n y15.c), (.slice y13.a y13.n y13.c)]
 ) (
 C.ret (.slice s2.2.a s2.2.n s2.2.c)
 )
theorem impl_keysIn_eq (C : Comb) (x0 : Sl) : fT C Tryz.prog ⟨[(2, [(0, .slice), (3, .slice)])], [], [], []⟩ n_impl_keysIn [(.slice x0.a x0.n x0.c)] = impl_keysIn C x0 := by kernel_rfl
theorem impl_keysIn_calls {R : Value → World → Prop} {w : World} (x0 : Sl) (h : (impl_keysIn (real Tryz.prog R) x0 : World → Prop) w) :
    Calls Tryz.prog n_impl_keysIn [(.slice x0.a x0.n x0.c)].toArray w fun e w' => ∃ v, e = .returned v ∧ R v w' := fT_sound mixed ⟨[(2, [(0, .slice), (3, .slice)])], [], [], []⟩ (by rw [impl_keysIn_eq]; exact h)

def spec_l01Hash (C : Comb) (x0 : Int) (x1 : Sl) : C.St :=
 C.new ty_impl_Key (.agg (Array.replicate 32 (.int .u8 0))) fun b4 =>
 C.call n_spec_l01Start [(.int .u8 x0)] [.agg] fun r6 =>
 C.call n_spec_l01End [(.agg r6), (.slice x1.a x1.n x1.c), (.int .i64 (x1.n : Int))] [.agg] fun r10 =>
 C.st 32 (Addr.mk b4 0 none) (.agg r10) <|
 C.ld .agg 32 (Addr.mk b4 0 none) fun z4 =>
 C.ret (.agg z4)
theorem spec_l01Hash_eq (C : Comb) (x0 : Int) (x1 : Sl) : fT C Tryz.prog ⟨[], [], [], []⟩ n_spec_l01Hash [(.int .u8 x0), (.slice x1.a x1.n x1.c)] = spec_l01Hash C x0 x1 := by kernel_rfl
theorem spec_l01Hash_calls {R : Value → World → Prop} {w : World} (x0 : Int) (x1 : Sl) (h : (spec_l01Hash (real Tryz.prog R) x0 x1 : World → Prop) w) :
    Calls Tryz.prog n_spec_l01Hash [(.int .u8 x0), (.slice x1.a x1.n x1.c)].toArray w fun e w' => ∃ v, e = .returned v ∧ R v w' := fT_sound mixed ⟨[], [], [], []⟩ (by rw [spec_l01Hash_eq]; exact h)

def ptr_impl_shop_has (C : Comb) (x0 : Addr) (x1 : Array Value) : C.St :=
 C.new ty_impl_Key (.agg x1) fun b3 =>
 C.ld .agg 32 (Addr.mk b3 0 none) fun v9 =>
 C.call n_ptr_impl_shop_find [(.pointer (some x0)), (.agg v9)] [(.int .i64), .bool] fun r10 =>
 C.ret (.bool r10.2)
theorem ptr_impl_shop_has_eq (C : Comb) (x0 : Addr) (x1 : Array Value) : fT C Tryz.prog ⟨[], [], [], []⟩ n_ptr_impl_shop_has [(.pointer (some x0)), (.agg x1)] = ptr_impl_shop_has C x0 x1 := by kernel_rfl
theorem ptr_impl_shop_has_calls {R : Value → World → Prop} {w : World} (x0 : Addr) (x1 : Array Value) (h : (ptr_impl_shop_has (real Tryz.prog R) x0 x1 : World → Prop) w) :
    Calls Tryz.prog n_ptr_impl_shop_has [(.pointer (some x0)), (.agg x1)].toArray w fun e w' => ∃ v, e = .returned v ∧ R v w' := fT_sound mixed ⟨[], [], [], []⟩ (by rw [ptr_impl_shop_has_eq]; exact h)

def ptr_impl_shop_get (C : Comb) (x0 : Addr) (x1 : Array Value) : C.St :=
 C.new ty_impl_Key (.agg x1) fun b3 =>
 C.new ty_impl_Blob (.agg (#[(.int .u8 0), (.slice none 0 0)])) fun b4 =>
 C.ld .agg 32 (Addr.mk b3 0 none) fun v10 =>
 C.call n_ptr_impl_shop_find [(.pointer (some x0)), (.agg v10)] [(.int .i64), .bool] fun r11 =>
 cond (!r11.2) (
 C.pur (Instr.build ty_impl_Blob #[]) .agg fun y16 =>
 C.st 2 (Addr.mk b4 0 none) (.agg y16) <|
 C.ld .agg 2 (Addr.mk b4 0 none) fun z6 =>
 C.ret (.tuple #[(.agg z6), (.bool false)])
 ) (
 C.ld .slice 1 (x0.add 1) fun v20 =>
 C.ix v20.a v20.n 2 r11.1 fun p22 =>
 C.ld .agg 2 p22 fun v23 =>
 C.st 2 (Addr.mk b4 0 none) (.agg v23) <|
 C.ld .agg 2 (Addr.mk b4 0 none) fun z10 =>
 C.ret (.tuple #[(.agg z10), (.bool true)])
 )
theorem ptr_impl_shop_get_eq (C : Comb) (x0 : Addr) (x1 : Array Value) : fT C Tryz.prog ⟨[], [], [], []⟩ n_ptr_impl_shop_get [(.pointer (some x0)), (.agg x1)] = ptr_impl_shop_get C x0 x1 := by kernel_rfl
theorem ptr_impl_shop_get_calls {R : Value → World → Prop} {w : World} (x0 : Addr) (x1 : Array Value) (h : (ptr_impl_shop_get (real Tryz.prog R) x0 x1 : World → Prop) w) :
    Calls Tryz.prog n_ptr_impl_shop_get [(.pointer (some x0)), (.agg x1)].toArray w fun e w' => ∃ v, e = .returned v ∧ R v w' := fT_sound mixed ⟨[], [], [], []⟩ (by rw [ptr_impl_shop_get_eq]; exact h)

def impl_Blob_links (C : Comb) (x0 : Array Value) : C.St :=
 C.new ty_impl_Blob (.agg x0) fun b1 =>
 C.ld .slice 1 ((Addr.mk b1 0 none).add 1) fun v8 =>
 C.ld (.int .u8) 1 ((Addr.mk b1 0 none).add 0) fun v11 =>
 cond (v11 == 2) (
 cond ((v8.n : Int) == 64) (
 C.ld .slice 1 ((Addr.mk b1 0 none).add 1) fun v17 =>
 C.call n_impl_keysIn [(.slice v17.a v17.n v17.c)] [.slice] fun r18 =>
 C.ret (.slice r18.a r18.n r18.c)
 ) (
 C.ret (.slice none 0 0)
 )
 ) (
 cond (v11 == 5) (
 C.ld .slice 1 ((Addr.mk b1 0 none).add 1) fun v23 =>
 C.call n_impl_ReadMapNode [(.slice v23.a v23.n v23.c)] [.agg, (.int .i64)] fun r24 =>
 C.new ty_impl_MapNode (.agg (#[(.int .u8 0), (.int .u8 0), (.int .u8 0), (.int .u8 0), (.int .u8 0), (.int .u8 0), (.int .u8 0), (.int .u8 0), (.int .u8 0), (.int .u8 0), (.int .u8 0), (.int .u8 0), (.int .u8 0), (.int .u8 0), (.int .u8 0), (.int .u8 0), (.int .u8 0), (.int .u8 0), (.int .u8 0), (.int .u8 0), (.int .u8 0), (.int .u8 0), (.int .u8 0), (.int .u8 0), (.int .u8 0), (.int .u8 0), (.int .u8 0), (.int .u8 0), (.int .u8 0), (.int .u8 0), (.int .u8 0), (.int .u8 0), (.int .u8 0), (.int .u8 0), (.int .u8 0), (.int .u8 0), (.int .u8 0), (.int .u8 0), (.int .u8 0), (.int .u8 0), (.int .u8 0), (.int .u8 0), (.int .u8 0), (.int .u8 0), (.int .u8 0), (.int .u8 0), (.int .u8 0), (.int .u8 0), (.int .u8 0), (.int .u8 0), (.int .u8 0), (.int .u8 0), (.int .u8 0), (.int .u8 0), (.int .u8 0), (.int .u8 0), (.int .u8 0), (.int .u8 0), (.int .u8 0), (.int .u8 0), (.int .u8 0), (.int .u8 0), (.int .u8 0), (.int .u8 0), (.string (⟨#[]⟩ : ByteArray)), (.string (⟨#[]⟩ : ByteArray))])) fun b4 =>
 C.st 66 (Addr.mk b4 0 none) (.agg r24.1) <|
 cond (r24.2 == 0) (
 C.call n_impl_EmptyMapKey [] [.agg] fun r29 =>
 C.new ty_impl_Key (.agg (Array.replicate 32 (.int .u8 0))) fun b6 =>
 C.st 32 (Addr.mk b6 0 none) (.agg r29) <|
 C.ld .agg 32 ((Addr.mk b4 0 none).add 0) fun v31 =>
 C.ld .agg 32 ((Addr.mk b4 0 none).add 32) fun v33 =>
 C.sem (Instr.buildSlice ty_sl_impl_Key 2 #[(0, (.agg v31)), (1, (.agg v33))]) .slice fun y34 =>
 C.call n_slices_DeleteFunc_sl_impl_Key_impl_Key [(.slice y34.a y34.n y34.c), (.func (.func n_impl_Blob_links_1) #[] #[(.pointer (some (Addr.mk b6 0 none)))])] [.slice] fun r36 =>
 C.ret (.slice r36.a r36.n r36.c)
 ) (
 C.ret (.slice none 0 0)
 )
 ) (
 cond (v11 == 6) (
 cond ((Int.tmod (v8.n : Int) 32) == 0) (
 C.ld .slice 1 ((Addr.mk b1 0 none).add 1) fun v43 =>
 C.call n_impl_keysIn [(.slice v43.a v43.n v43.c)] [.slice] fun r44 =>
 C.ret (.slice r44.a r44.n r44.c)
 ) (
 C.ret (.slice none 0 0)
 )
 ) (
 cond (v11 == 7) (
 C.join (TL [.bool]) (embL [.bool]) (fun s20 => C.any fun _ =>
 cond s20 (
 C.draw <|
 C.ld .slice 1 ((Addr.mk b1 0 none).add 1) fun v61 =>
 C.ld .slice 1 ((Addr.mk b1 0 none).add 1) fun v63 =>
 C.ix v63.a v63.n 1 0 fun p64 =>
 C.ld (.int .u8) 1 p64 fun v65 =>
 C.sl v61.a v61.n v61.c 1 (some 1) (some (IntKind.wrap .i64 (1 + (IntKind.wrap .i64 (32 * (IntKind.wrap .i64 (v65))))))) none fun y69 =>
 C.call n_impl_keysIn [(.slice y69.a y69.n y69.c)] [.slice] fun r70 =>
 C.chk [⟨5, 1, p64, (.int .u8), v65⟩, ⟨3, 1, ((Addr.mk b1 0 none).add 1), .slice, v63⟩, ⟨1, 1, ((Addr.mk b1 0 none).add 1), .slice, v61⟩] <|
 C.ret (.slice r70.a r70.n r70.c)
 ) (
 C.ret (.slice none 0 0)
 )
 ) fun jt =>
 cond (decide ((v8.n : Int) > 0)) (
 C.ld .slice 1 ((Addr.mk b1 0 none).add 1) fun v52 =>
 C.ix v52.a v52.n 1 0 fun p53 =>
 C.ld (.int .u8) 1 p53 fun v54 =>
 jt [(.bool (decide ((v8.n : Int) ≥ (IntKind.wrap .i64 (1 + (IntKind.wrap .i64 (32 * (IntKind.wrap .i64 (v54)))))))))]
 ) (
 jt [(.bool false)]
 )
 ) (
 C.ret (.slice none 0 0)
 )
 )
 )
 )
theorem impl_Blob_links_eq (C : Comb) (x0 : Array Value) : fT C Tryz.prog ⟨[], [(46, [(59, .bool)])], [16], []⟩ n_impl_Blob_links [(.agg x0)] = impl_Blob_links C x0 := by kernel_rfl
theorem impl_Blob_links_calls {R : Value → World → Prop} {w : World} (x0 : Array Value) (h : (impl_Blob_links (real Tryz.prog R) x0 : World → Prop) w) :
    Calls Tryz.prog n_impl_Blob_links [(.agg x0)].toArray w fun e w' => ∃ v, e = .returned v ∧ R v w' := fT_sound mixed ⟨[], [(46, [(59, .bool)])], [16], []⟩ (by rw [impl_Blob_links_eq]; exact h)

def ptr_spec_l05Store_find (C : Comb) (x0 : Addr) (x1 : Array Value) : C.St :=
 C.new ty_impl_Key (.agg x1) fun b3 =>
 C.loop (TL [(.int .i64)]) (embL [(.int .i64)]) [(.int .i64 0)] fun s2 ct2 => C.any fun _ =>
 C.ld .slice 1 (x0.add 1) fun v10 =>
 cond (decide (s2 < (v10.n : Int))) (
 C.draw <|
 C.ld .slice 1 (x0.add 1) fun v18 =>
 C.ix v18.a v18.n 32 s2 fun p20 =>
 C.ld .agg 32 p20 fun v21 =>
 C.ld .agg 32 (Addr.mk b3 0 none) fun v22 =>
 C.pur (eqB .eql ty_impl_Key (.tmp 21) (.tmp 22) (.agg v21) (.agg v22)) .bool fun y23 =>
 cond y23 (
 C.ret (.int .i64 s2)
 ) (
 ct2 [(.int .i64 (IntKind.wrap .i64 (s2 + 1)))]
 )
 ) (
 C.ret (.int .i64 (-1))
 )
theorem ptr_spec_l05Store_find_eq (C : Comb) (x0 : Addr) (x1 : Array Value) : fT C Tryz.prog ⟨[(2, [(5, (.int .i64))])], [], [], []⟩ n_ptr_spec_l05Store_find [(.pointer (some x0)), (.agg x1)] = ptr_spec_l05Store_find C x0 x1 := by kernel_rfl
theorem ptr_spec_l05Store_find_calls {R : Value → World → Prop} {w : World} (x0 : Addr) (x1 : Array Value) (h : (ptr_spec_l05Store_find (real Tryz.prog R) x0 x1 : World → Prop) w) :
    Calls Tryz.prog n_ptr_spec_l05Store_find [(.pointer (some x0)), (.agg x1)].toArray w fun e w' => ∃ v, e = .returned v ∧ R v w' := fT_sound mixed ⟨[(2, [(5, (.int .i64))])], [], [], []⟩ (by rw [ptr_spec_l05Store_find_eq]; exact h)

end Go.Proofs.YtkifkdkjljcclaaGreat
