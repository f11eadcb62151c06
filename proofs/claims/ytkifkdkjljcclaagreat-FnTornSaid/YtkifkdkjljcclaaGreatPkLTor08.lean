/- Printed by a program of this claim's author: each Go function as a Lean function over abstract combinators, and the equation that says that T makes it of the loaded code. -/
import Derived.Test.YtkifkdkjljcclaaGreatProg
import Derived.Test.YtkifkdkjljcclaaGreatPkLTor07
namespace Go.Proofs.YtkifkdkjljcclaaGreat
open Go.Sx
def spec_StoreMap (C : Comb) (x0 : Array Value) (x1 : Sl) : C.St :=
 C.new ty_impl_Store (.agg x0) fun b2 =>
 C.new ty_impl_Store (.agg (#[(.slice none 0 0)])) fun b4 =>
 C.new ty_impl_Key (.agg (Array.replicate 32 (.int .u8 0))) fun b5 =>
 C.call n_spec_l05Open [(.pointer (some (Addr.mk b2 0 none)))] [.optr, .bool] fun r15 =>
 C.join (TL []) (embL []) (fun s12 => C.any fun _ =>
 C.call n_spec_l04Nodes [(.slice x1.a x1.n x1.c)] [.slice, .agg] fun r29 =>
 C.new ty_impl_Key (.agg (Array.replicate 32 (.int .u8 0))) fun b10 =>
 C.st 32 (Addr.mk b10 0 none) (.agg r29.2) <|
 C.loop (TL [(.int .i64)]) (embL [(.int .i64)]) [(.int .i64 0)] fun s15 ct15 => C.any fun _ =>
 cond (decide (s15 < (r29.1.n : Int))) (
 C.ix r29.1.a r29.1.n 66 s15 fun p42 =>
 C.call n_spec_l04Bytes [(.pointer (some p42))] [.slice] fun r43 =>
 C.pur (Instr.build ty_impl_Blob #[(0, (.int .u8 5)), (1, (.slice r43.a r43.n r43.c))]) .agg fun y44 =>
 C.call n_ptr_spec_l05Store_put [(.pointer r15.1), (.agg y44)] [.agg, (.int .i64)] fun r45 =>
 C.new ty_impl_Key (.agg (Array.replicate 32 (.int .u8 0))) fun b12 =>
 C.st 32 (Addr.mk b12 0 none) (.agg r45.1) <|
 cond (r45.2 != 0) (
 C.ld .agg 32 (Addr.mk b10 0 none) fun v51 =>
 C.call n_spec_l05Made [(.pointer r15.1), (.agg v51), (.int .i64 r45.2)] [.agg, .agg, (.int .i64)] fun r53 =>
 C.st 1 (Addr.mk b4 0 none) (.agg r53.1) <|
 C.st 32 (Addr.mk b5 0 none) (.agg r53.2.1) <|
 C.ld .agg 1 (Addr.mk b4 0 none) fun z23 =>
 C.ld .agg 32 (Addr.mk b5 0 none) fun z24 =>
 C.ret (.tuple #[(.agg z23), (.agg z24), (.int .i64 r53.2.2)])
 ) (
 ct15 [(.int .i64 (IntKind.wrap .i64 (s15 + 1)))]
 )
 ) (
 C.ld .agg 32 (Addr.mk b10 0 none) fun v58 =>
 C.call n_spec_l05Made [(.pointer r15.1), (.agg v58), (.int .i64 0)] [.agg, .agg, (.int .i64)] fun r59 =>
 C.st 1 (Addr.mk b4 0 none) (.agg r59.1) <|
 C.st 32 (Addr.mk b5 0 none) (.agg r59.2.1) <|
 C.ld .agg 1 (Addr.mk b4 0 none) fun z27 =>
 C.ld .agg 32 (Addr.mk b5 0 none) fun z28 =>
 C.ret (.tuple #[(.agg z27), (.agg z28), (.int .i64 r59.2.2)])
 )
 ) fun jt =>
 cond (!r15.2) (
 C.pur (Instr.build ty_impl_Store #[]) .agg fun y25 =>
 C.st 1 (Addr.mk b4 0 none) (.agg y25) <|
 C.st 32 (Addr.mk b5 0 none) (.agg (Array.replicate 32 (.int .u8 0))) <|
 C.ld .agg 1 (Addr.mk b4 0 none) fun z6 =>
 C.ld .agg 32 (Addr.mk b5 0 none) fun z7 =>
 C.ret (.tuple #[(.agg z6), (.agg z7), (.int .i64 1)])
 ) (
 C.call n_spec_l04Ok [(.slice x1.a x1.n x1.c)] [.bool] fun r22 =>
 cond (!r22) (
 C.pur (Instr.build ty_impl_Store #[]) .agg fun y25 =>
 C.st 1 (Addr.mk b4 0 none) (.agg y25) <|
 C.st 32 (Addr.mk b5 0 none) (.agg (Array.replicate 32 (.int .u8 0))) <|
 C.ld .agg 1 (Addr.mk b4 0 none) fun z10 =>
 C.ld .agg 32 (Addr.mk b5 0 none) fun z11 =>
 C.ret (.tuple #[(.agg z10), (.agg z11), (.int .i64 1)])
 ) (
 jt []
 )
 )
theorem spec_StoreMap_eq (C : Comb) (x0 : Array Value) (x1 : Sl) : fT C Tryz.prog ⟨[(6, [(11, (.int .i64))])], [(72, [])], [], []⟩ n_spec_StoreMap [(.agg x0), (.slice x1.a x1.n x1.c)] = spec_StoreMap C x0 x1 := by kernel_rfl
theorem spec_StoreMap_calls {R : Value → World → Prop} {w : World} (x0 : Array Value) (x1 : Sl) (h : (spec_StoreMap (real Tryz.prog R) x0 x1 : World → Prop) w) :
    Calls Tryz.prog n_spec_StoreMap [(.agg x0), (.slice x1.a x1.n x1.c)].toArray w fun e w' => ∃ v, e = .returned v ∧ R v w' := fT_sound mixed ⟨[(6, [(11, (.int .i64))])], [(72, [])], [], []⟩ (by rw [spec_StoreMap_eq]; exact h)

def spec_StoreList (C : Comb) (x0 : Array Value) (x1 : Sl) : C.St :=
 C.new ty_impl_Store (.agg x0) fun b2 =>
 C.new ty_impl_Store (.agg (#[(.slice none 0 0)])) fun b4 =>
 C.new ty_impl_Key (.agg (Array.replicate 32 (.int .u8 0))) fun b5 =>
 cond (decide ((x1.n : Int) > 256)) (
 C.pur (Instr.build ty_impl_Store #[]) .agg fun y21 =>
 C.st 1 (Addr.mk b4 0 none) (.agg y21) <|
 C.st 32 (Addr.mk b5 0 none) (.agg (Array.replicate 32 (.int .u8 0))) <|
 C.ld .agg 1 (Addr.mk b4 0 none) fun z5 =>
 C.ld .agg 32 (Addr.mk b5 0 none) fun z6 =>
 C.ret (.tuple #[(.agg z5), (.agg z6), (.int .i64 3)])
 ) (
 C.call n_spec_l05Open [(.pointer (some (Addr.mk b2 0 none)))] [.optr, .bool] fun r24 =>
 C.join (TL [.bool]) (embL [.bool]) (fun s12 => C.any fun _ =>
 cond (!s12) (
 C.pur (Instr.build ty_impl_Store #[]) .agg fun y44 =>
 C.st 1 (Addr.mk b4 0 none) (.agg y44) <|
 C.st 32 (Addr.mk b5 0 none) (.agg (Array.replicate 32 (.int .u8 0))) <|
 C.ld .agg 1 (Addr.mk b4 0 none) fun z14 =>
 C.ld .agg 32 (Addr.mk b5 0 none) fun z15 =>
 C.ret (.tuple #[(.agg z14), (.agg z15), (.int .i64 1)])
 ) (
 C.sem (Instr.buildSlice ty_sl_impl_Key 0 #[]) .slice fun y46 =>
 C.loop (TL [.slice, (.int .i64)]) (embL [.slice, (.int .i64)]) [(.slice y46.a y46.n y46.c), (.int .i64 0)] fun s17 ct17 => C.any fun _ =>
 cond (decide (s17.2 < (x1.n : Int))) (
 C.ix x1.a x1.n 1 s17.2 fun p57 =>
 C.ld .slice 1 p57 fun v58 =>
 C.pur (Instr.build ty_impl_Blob #[(0, (.int .u8 1)), (1, (.slice v58.a v58.n v58.c))]) .agg fun y59 =>
 C.call n_ptr_spec_l05Store_put [(.pointer r24.1), (.agg y59)] [.agg, (.int .i64)] fun r60 =>
 C.new ty_impl_Key (.agg (Array.replicate 32 (.int .u8 0))) fun b12 =>
 C.st 32 (Addr.mk b12 0 none) (.agg r60.1) <|
 cond (r60.2 != 0) (
 C.ld .agg 32 (Addr.mk b12 0 none) fun v66 =>
 C.call n_spec_l05Made [(.pointer r24.1), (.agg v66), (.int .i64 r60.2)] [.agg, .agg, (.int .i64)] fun r68 =>
 C.st 1 (Addr.mk b4 0 none) (.agg r68.1) <|
 C.st 32 (Addr.mk b5 0 none) (.agg r68.2.1) <|
 C.ld .agg 1 (Addr.mk b4 0 none) fun z25 =>
 C.ld .agg 32 (Addr.mk b5 0 none) fun z26 =>
 C.ret (.tuple #[(.agg z25), (.agg z26), (.int .i64 r68.2.2)])
 ) (
 C.ld .agg 32 (Addr.mk b12 0 none) fun v73 =>
 C.sem (Instr.buildSlice ty_sl_impl_Key 1 #[(0, (.agg v73))]) .slice fun y74 =>
 C.sem (Builtin.append_ #[ty_sl_impl_Key, ty_sl_impl_Key] ty_sl_impl_Key #[(.slice s17.1.a s17.1.n s17.1.c), (.slice y74.a y74.n y74.c)]) .slice fun y75 =>
 ct17 [(.slice y75.a y75.n y75.c), (.int .i64 (IntKind.wrap .i64 (s17.2 + 1)))]
 )
 ) (
 cond ((s17.1.n : Int) == 0) (
 C.pur (Instr.build ty_impl_Blob #[(0, (.int .u8 3))]) .agg fun y81 =>
 C.call n_ptr_spec_l05Store_put [(.pointer r24.1), (.agg y81)] [.agg, (.int .i64)] fun r82 =>
 C.new ty_impl_Key (.agg (Array.replicate 32 (.int .u8 0))) fun b14 =>
 C.st 32 (Addr.mk b14 0 none) (.agg r82.1) <|
 C.ld .agg 32 (Addr.mk b14 0 none) fun v86 =>
 C.call n_spec_l05Made [(.pointer r24.1), (.agg v86), (.int .i64 r82.2)] [.agg, .agg, (.int .i64)] fun r88 =>
 C.st 1 (Addr.mk b4 0 none) (.agg r88.1) <|
 C.st 32 (Addr.mk b5 0 none) (.agg r88.2.1) <|
 C.ld .agg 1 (Addr.mk b4 0 none) fun z35 =>
 C.ld .agg 32 (Addr.mk b5 0 none) fun z36 =>
 C.ret (.tuple #[(.agg z35), (.agg z36), (.int .i64 r88.2.2)])
 ) (
 C.call n_ptr_spec_l05Store_list [(.pointer r24.1), (.slice s17.1.a s17.1.n s17.1.c)] [.agg, (.int .i64)] fun r95 =>
 C.new ty_impl_Key (.agg (Array.replicate 32 (.int .u8 0))) fun b16 =>
 C.st 32 (Addr.mk b16 0 none) (.agg r95.1) <|
 C.ld .agg 32 (Addr.mk b16 0 none) fun v99 =>
 C.call n_spec_l05Made [(.pointer r24.1), (.agg v99), (.int .i64 r95.2)] [.agg, .agg, (.int .i64)] fun r101 =>
 C.st 1 (Addr.mk b4 0 none) (.agg r101.1) <|
 C.st 32 (Addr.mk b5 0 none) (.agg r101.2.1) <|
 C.ld .agg 1 (Addr.mk b4 0 none) fun z41 =>
 C.ld .agg 32 (Addr.mk b5 0 none) fun z42 =>
 C.ret (.tuple #[(.agg z41), (.agg z42), (.int .i64 r101.2.2)])
 )
 )
 )
 ) fun jt =>
 C.loop (TL [.bool, (.int .i64)]) (embL [.bool, (.int .i64)]) [(.bool r24.2), (.int .i64 0)] fun s8 ct8 => C.any fun _ =>
 C.join (TL []) (embL []) (fun s9 => C.any fun _ =>
 C.ix x1.a x1.n 1 s8.2 fun p38 =>
 C.ld .slice 1 p38 fun v39 =>
 ct8 [(.bool (decide ((v39.n : Int) ≤ 1024))), (.int .i64 (IntKind.wrap .i64 (s8.2 + 1)))]
 ) fun jt1 =>
 cond (decide (s8.2 < (x1.n : Int))) (
 cond s8.1 (
 jt1 []
 ) (
 jt [(.bool s8.1)]
 )
 ) (
 jt [(.bool s8.1)]
 )
 )
theorem spec_StoreList_eq (C : Comb) (x0 : Array Value) (x1 : Sl) : fT C Tryz.prog ⟨[(5, [(8, .bool), (9, (.int .i64))]), (12, [(10, .slice), (11, (.int .i64))])], [(99, []), (17, [(8, .bool)])], [], []⟩ n_spec_StoreList [(.agg x0), (.slice x1.a x1.n x1.c)] = spec_StoreList C x0 x1 := by kernel_rfl
theorem spec_StoreList_calls {R : Value → World → Prop} {w : World} (x0 : Array Value) (x1 : Sl) (h : (spec_StoreList (real Tryz.prog R) x0 x1 : World → Prop) w) :
    Calls Tryz.prog n_spec_StoreList [(.agg x0), (.slice x1.a x1.n x1.c)].toArray w fun e w' => ∃ v, e = .returned v ∧ R v w' := fT_sound mixed ⟨[(5, [(8, .bool), (9, (.int .i64))]), (12, [(10, .slice), (11, (.int .i64))])], [(99, []), (17, [(8, .bool)])], [], []⟩ (by rw [spec_StoreList_eq]; exact h)

def spec_l06Store (C : Comb) (x0 : Addr) : C.St :=
 C.new ty_impl_Store (.agg (#[(.slice none 0 0)])) fun b2 =>
 C.call n_spec_l05Drawn [(.pointer (some x0))] [.agg, .slice] fun r11 =>
 C.new ty_impl_Store (.agg (#[(.slice none 0 0)])) fun b3 =>
 C.st 1 (Addr.mk b3 0 none) (.agg r11.1) <|
 C.call n_ptr_spec_l00Src_pick [(.pointer (some x0)), (.int .i64 5)] [(.int .i64)] fun r15 =>
 C.loop (TL [(.int .i64)]) (embL [(.int .i64)]) [(.int .i64 r15)] fun s5 ct5 => C.any fun _ =>
 cond (decide (s5 > 0)) (
 C.draw <|
 C.ld .agg 1 (Addr.mk b3 0 none) fun v21 =>
 C.all [
 (C.call n_ptr_spec_l00Src_pick [(.pointer (some x0)), (.int .i64 2)] [(.int .i64)] fun r23 =>
 C.chk [⟨0, 1, (Addr.mk b3 0 none), .agg, v21⟩] <|
 C.all [
 (C.call n_spec_l06Bytes [(.pointer (some x0)), (.int .i64 5)] [.slice] fun r27 =>
 C.chk [⟨0, 1, (Addr.mk b3 0 none), .agg, v21⟩] <|
 C.pur (Instr.build ty_impl_Blob #[(0, (.int .u8 (IntKind.wrap .u8 ((IntKind.wrap .i64 (1 + r23)))))), (1, (.slice r27.a r27.n r27.c))]) .agg fun y28 =>
 C.all [
 (C.call n_spec_PutBlob [(.agg v21), (.agg y28)] [.agg, .agg, (.int .i64)] fun r29 =>
 C.all [
 (C.new ty_impl_Store (.agg (#[(.slice none 0 0)])) fun b6 =>
 C.new ty_impl_Key (.agg (Array.replicate 32 (.int .u8 0))) fun b7 =>
 C.st 1 (Addr.mk b6 0 none) (.agg r29.1) <|
 C.st 32 (Addr.mk b7 0 none) (.agg r29.2.1) <|
 cond (r29.2.2 == 0) (
 C.ld .agg 1 (Addr.mk b6 0 none) fun v35 =>
 C.st 1 (Addr.mk b3 0 none) (.agg v35) <|
 ct5 [(.int .i64 (IntKind.wrap .i64 (s5 - 1)))]
 ) (
 ct5 [(.int .i64 (IntKind.wrap .i64 (s5 - 1)))]
 )),
 (C.new ty_impl_Key (.agg (Array.replicate 32 (.int .u8 0))) fun b7 =>
 C.new ty_impl_Store (.agg (#[(.slice none 0 0)])) fun b6 =>
 C.st 1 (Addr.mk b6 0 none) (.agg r29.1) <|
 C.st 32 (Addr.mk b7 0 none) (.agg r29.2.1) <|
 cond (r29.2.2 == 0) (
 C.ld .agg 1 (Addr.mk b6 0 none) fun v35 =>
 C.st 1 (Addr.mk b3 0 none) (.agg v35) <|
 ct5 [(.int .i64 (IntKind.wrap .i64 (s5 - 1)))]
 ) (
 ct5 [(.int .i64 (IntKind.wrap .i64 (s5 - 1)))]
 ))]),
 (C.new ty_impl_Store (.agg (#[(.slice none 0 0)])) fun b6 =>
 C.chk [⟨0, 1, (Addr.mk b3 0 none), .agg, v21⟩] <|
 C.all [
 (C.call n_spec_PutBlob [(.agg v21), (.agg y28)] [.agg, .agg, (.int .i64)] fun r29 =>
 C.new ty_impl_Key (.agg (Array.replicate 32 (.int .u8 0))) fun b7 =>
 C.st 1 (Addr.mk b6 0 none) (.agg r29.1) <|
 C.st 32 (Addr.mk b7 0 none) (.agg r29.2.1) <|
 cond (r29.2.2 == 0) (
 C.ld .agg 1 (Addr.mk b6 0 none) fun v35 =>
 C.st 1 (Addr.mk b3 0 none) (.agg v35) <|
 ct5 [(.int .i64 (IntKind.wrap .i64 (s5 - 1)))]
 ) (
 ct5 [(.int .i64 (IntKind.wrap .i64 (s5 - 1)))]
 )),
 (C.new ty_impl_Key (.agg (Array.replicate 32 (.int .u8 0))) fun b7 =>
 C.chk [⟨0, 1, (Addr.mk b3 0 none), .agg, v21⟩] <|
 C.call n_spec_PutBlob [(.agg v21), (.agg y28)] [.agg, .agg, (.int .i64)] fun r29 =>
 C.st 1 (Addr.mk b6 0 none) (.agg r29.1) <|
 C.st 32 (Addr.mk b7 0 none) (.agg r29.2.1) <|
 cond (r29.2.2 == 0) (
 C.ld .agg 1 (Addr.mk b6 0 none) fun v35 =>
 C.st 1 (Addr.mk b3 0 none) (.agg v35) <|
 ct5 [(.int .i64 (IntKind.wrap .i64 (s5 - 1)))]
 ) (
 ct5 [(.int .i64 (IntKind.wrap .i64 (s5 - 1)))]
 ))]),
 (C.new ty_impl_Key (.agg (Array.replicate 32 (.int .u8 0))) fun b7 =>
 C.chk [⟨0, 1, (Addr.mk b3 0 none), .agg, v21⟩] <|
 C.all [
 (C.call n_spec_PutBlob [(.agg v21), (.agg y28)] [.agg, .agg, (.int .i64)] fun r29 =>
 C.new ty_impl_Store (.agg (#[(.slice none 0 0)])) fun b6 =>
 C.st 1 (Addr.mk b6 0 none) (.agg r29.1) <|
 C.st 32 (Addr.mk b7 0 none) (.agg r29.2.1) <|
 cond (r29.2.2 == 0) (
 C.ld .agg 1 (Addr.mk b6 0 none) fun v35 =>
 C.st 1 (Addr.mk b3 0 none) (.agg v35) <|
 ct5 [(.int .i64 (IntKind.wrap .i64 (s5 - 1)))]
 ) (
 ct5 [(.int .i64 (IntKind.wrap .i64 (s5 - 1)))]
 )),
 (C.new ty_impl_Store (.agg (#[(.slice none 0 0)])) fun b6 =>
 C.chk [⟨0, 1, (Addr.mk b3 0 none), .agg, v21⟩] <|
 C.call n_spec_PutBlob [(.agg v21), (.agg y28)] [.agg, .agg, (.int .i64)] fun r29 =>
 C.st 1 (Addr.mk b6 0 none) (.agg r29.1) <|
 C.st 32 (Addr.mk b7 0 none) (.agg r29.2.1) <|
 cond (r29.2.2 == 0) (
 C.ld .agg 1 (Addr.mk b6 0 none) fun v35 =>
 C.st 1 (Addr.mk b3 0 none) (.agg v35) <|
 ct5 [(.int .i64 (IntKind.wrap .i64 (s5 - 1)))]
 ) (
 ct5 [(.int .i64 (IntKind.wrap .i64 (s5 - 1)))]
 ))])]),
 (C.new ty_impl_Store (.agg (#[(.slice none 0 0)])) fun b6 =>
 C.chk [⟨0, 1, (Addr.mk b3 0 none), .agg, v21⟩] <|
 C.all [
 (C.call n_spec_l06Bytes [(.pointer (some x0)), (.int .i64 5)] [.slice] fun r27 =>
 C.chk [⟨0, 1, (Addr.mk b3 0 none), .agg, v21⟩] <|
 C.pur (Instr.build ty_impl_Blob #[(0, (.int .u8 (IntKind.wrap .u8 ((IntKind.wrap .i64 (1 + r23)))))), (1, (.slice r27.a r27.n r27.c))]) .agg fun y28 =>
 C.all [
 (C.call n_spec_PutBlob [(.agg v21), (.agg y28)] [.agg, .agg, (.int .i64)] fun r29 =>
 C.new ty_impl_Key (.agg (Array.replicate 32 (.int .u8 0))) fun b7 =>
 C.st 1 (Addr.mk b6 0 none) (.agg r29.1) <|
 C.st 32 (Addr.mk b7 0 none) (.agg r29.2.1) <|
 cond (r29.2.2 == 0) (
 C.ld .agg 1 (Addr.mk b6 0 none) fun v35 =>
 C.st 1 (Addr.mk b3 0 none) (.agg v35) <|
 ct5 [(.int .i64 (IntKind.wrap .i64 (s5 - 1)))]
 ) (
 ct5 [(.int .i64 (IntKind.wrap .i64 (s5 - 1)))]
 )),
 (C.new ty_impl_Key (.agg (Array.replicate 32 (.int .u8 0))) fun b7 =>
 C.chk [⟨0, 1, (Addr.mk b3 0 none), .agg, v21⟩] <|
 C.call n_spec_PutBlob [(.agg v21), (.agg y28)] [.agg, .agg, (.int .i64)] fun r29 =>
 C.st 1 (Addr.mk b6 0 none) (.agg r29.1) <|
 C.st 32 (Addr.mk b7 0 none) (.agg r29.2.1) <|
 cond (r29.2.2 == 0) (
 C.ld .agg 1 (Addr.mk b6 0 none) fun v35 =>
 C.st 1 (Addr.mk b3 0 none) (.agg v35) <|
 ct5 [(.int .i64 (IntKind.wrap .i64 (s5 - 1)))]
 ) (
 ct5 [(.int .i64 (IntKind.wrap .i64 (s5 - 1)))]
 ))]),
 (C.new ty_impl_Key (.agg (Array.replicate 32 (.int .u8 0))) fun b7 =>
 C.chk [⟨0, 1, (Addr.mk b3 0 none), .agg, v21⟩] <|
 C.call n_spec_l06Bytes [(.pointer (some x0)), (.int .i64 5)] [.slice] fun r27 =>
 C.chk [⟨0, 1, (Addr.mk b3 0 none), .agg, v21⟩] <|
 C.pur (Instr.build ty_impl_Blob #[(0, (.int .u8 (IntKind.wrap .u8 ((IntKind.wrap .i64 (1 + r23)))))), (1, (.slice r27.a r27.n r27.c))]) .agg fun y28 =>
 C.call n_spec_PutBlob [(.agg v21), (.agg y28)] [.agg, .agg, (.int .i64)] fun r29 =>
 C.st 1 (Addr.mk b6 0 none) (.agg r29.1) <|
 C.st 32 (Addr.mk b7 0 none) (.agg r29.2.1) <|
 cond (r29.2.2 == 0) (
 C.ld .agg 1 (Addr.mk b6 0 none) fun v35 =>
 C.st 1 (Addr.mk b3 0 none) (.agg v35) <|
 ct5 [(.int .i64 (IntKind.wrap .i64 (s5 - 1)))]
 ) (
 ct5 [(.int .i64 (IntKind.wrap .i64 (s5 - 1)))]
 ))]),
 (C.new ty_impl_Key (.agg (Array.replicate 32 (.int .u8 0))) fun b7 =>
 C.chk [⟨0, 1, (Addr.mk b3 0 none), .agg, v21⟩] <|
 C.all [
 (C.call n_spec_l06Bytes [(.pointer (some x0)), (.int .i64 5)] [.slice] fun r27 =>
 C.chk [⟨0, 1, (Addr.mk b3 0 none), .agg, v21⟩] <|
 C.pur (Instr.build ty_impl_Blob #[(0, (.int .u8 (IntKind.wrap .u8 ((IntKind.wrap .i64 (1 + r23)))))), (1, (.slice r27.a r27.n r27.c))]) .agg fun y28 =>
 C.all [
 (C.call n_spec_PutBlob [(.agg v21), (.agg y28)] [.agg, .agg, (.int .i64)] fun r29 =>
 C.new ty_impl_Store (.agg (#[(.slice none 0 0)])) fun b6 =>
 C.st 1 (Addr.mk b6 0 none) (.agg r29.1) <|
 C.st 32 (Addr.mk b7 0 none) (.agg r29.2.1) <|
 cond (r29.2.2 == 0) (
 C.ld .agg 1 (Addr.mk b6 0 none) fun v35 =>
 C.st 1 (Addr.mk b3 0 none) (.agg v35) <|
 ct5 [(.int .i64 (IntKind.wrap .i64 (s5 - 1)))]
 ) (
 ct5 [(.int .i64 (IntKind.wrap .i64 (s5 - 1)))]
 )),
 (C.new ty_impl_Store (.agg (#[(.slice none 0 0)])) fun b6 =>
 C.chk [⟨0, 1, (Addr.mk b3 0 none), .agg, v21⟩] <|
 C.call n_spec_PutBlob [(.agg v21), (.agg y28)] [.agg, .agg, (.int .i64)] fun r29 =>
 C.st 1 (Addr.mk b6 0 none) (.agg r29.1) <|
 C.st 32 (Addr.mk b7 0 none) (.agg r29.2.1) <|
 cond (r29.2.2 == 0) (
 C.ld .agg 1 (Addr.mk b6 0 none) fun v35 =>
 C.st 1 (Addr.mk b3 0 none) (.agg v35) <|
 ct5 [(.int .i64 (IntKind.wrap .i64 (s5 - 1)))]
 ) (
 ct5 [(.int .i64 (IntKind.wrap .i64 (s5 - 1)))]
 ))]),
 (C.new ty_impl_Store (.agg (#[(.slice none 0 0)])) fun b6 =>
 C.chk [⟨0, 1, (Addr.mk b3 0 none), .agg, v21⟩] <|
 C.call n_spec_l06Bytes [(.pointer (some x0)), (.int .i64 5)] [.slice] fun r27 =>
 C.chk [⟨0, 1, (Addr.mk b3 0 none), .agg, v21⟩] <|
 C.pur (Instr.build ty_impl_Blob #[(0, (.int .u8 (IntKind.wrap .u8 ((IntKind.wrap .i64 (1 + r23)))))), (1, (.slice r27.a r27.n r27.c))]) .agg fun y28 =>
 C.call n_spec_PutBlob [(.agg v21), (.agg y28)] [.agg, .agg, (.int .i64)] fun r29 =>
 C.st 1 (Addr.mk b6 0 none) (.agg r29.1) <|
 C.st 32 (Addr.mk b7 0 none) (.agg r29.2.1) <|
 cond (r29.2.2 == 0) (
 C.ld .agg 1 (Addr.mk b6 0 none) fun v35 =>
 C.st 1 (Addr.mk b3 0 none) (.agg v35) <|
 ct5 [(.int .i64 (IntKind.wrap .i64 (s5 - 1)))]
 ) (
 ct5 [(.int .i64 (IntKind.wrap .i64 (s5 - 1)))]
 ))])]),
 (C.new ty_impl_Store (.agg (#[(.slice none 0 0)])) fun b6 =>
 C.chk [⟨0, 1, (Addr.mk b3 0 none), .agg, v21⟩] <|
 C.all [
 (C.call n_ptr_spec_l00Src_pick [(.pointer (some x0)), (.int .i64 2)] [(.int .i64)] fun r23 =>
 C.chk [⟨0, 1, (Addr.mk b3 0 none), .agg, v21⟩] <|
 C.all [
 (C.call n_spec_l06Bytes [(.pointer (some x0)), (.int .i64 5)] [.slice] fun r27 =>
 C.chk [⟨0, 1, (Addr.mk b3 0 none), .agg, v21⟩] <|
 C.pur (Instr.build ty_impl_Blob #[(0, (.int .u8 (IntKind.wrap .u8 ((IntKind.wrap .i64 (1 + r23)))))), (1, (.slice r27.a r27.n r27.c))]) .agg fun y28 =>
 C.all [
 (C.call n_spec_PutBlob [(.agg v21), (.agg y28)] [.agg, .agg, (.int .i64)] fun r29 =>
 C.new ty_impl_Key (.agg (Array.replicate 32 (.int .u8 0))) fun b7 =>
 C.st 1 (Addr.mk b6 0 none) (.agg r29.1) <|
 C.st 32 (Addr.mk b7 0 none) (.agg r29.2.1) <|
 cond (r29.2.2 == 0) (
 C.ld .agg 1 (Addr.mk b6 0 none) fun v35 =>
 C.st 1 (Addr.mk b3 0 none) (.agg v35) <|
 ct5 [(.int .i64 (IntKind.wrap .i64 (s5 - 1)))]
 ) (
 ct5 [(.int .i64 (IntKind.wrap .i64 (s5 - 1)))]
 )),
 (C.new ty_impl_Key (.agg (Array.replicate 32 (.int .u8 0))) fun b7 =>
 C.chk [⟨0, 1, (Addr.mk b3 0 none), .agg, v21⟩] <|
 C.call n_spec_PutBlob [(.agg v21), (.agg y28)] [.agg, .agg, (.int .i64)] fun r29 =>
 C.st 1 (Addr.mk b6 0 none) (.agg r29.1) <|
 C.st 32 (Addr.mk b7 0 none) (.agg r29.2.1) <|
 cond (r29.2.2 == 0) (
 C.ld .agg 1 (Addr.mk b6 0 none) fun v35 =>
 C.st 1 (Addr.mk b3 0 none) (.agg v35) <|
 ct5 [(.int .i64 (IntKind.wrap .i64 (s5 - 1)))]
 ) (
 ct5 [(.int .i64 (IntKind.wrap .i64 (s5 - 1)))]
 ))]),
 (C.new ty_impl_Key (.agg (Array.replicate 32 (.int .u8 0))) fun b7 =>
 C.chk [⟨0, 1, (Addr.mk b3 0 none), .agg, v21⟩] <|
 C.call n_spec_l06Bytes [(.pointer (some x0)), (.int .i64 5)] [.slice] fun r27 =>
 C.chk [⟨0, 1, (Addr.mk b3 0 none), .agg, v21⟩] <|
 C.pur (Instr.build ty_impl_Blob #[(0, (.int .u8 (IntKind.wrap .u8 ((IntKind.wrap .i64 (1 + r23)))))), (1, (.slice r27.a r27.n r27.c))]) .agg fun y28 =>
 C.call n_spec_PutBlob [(.agg v21), (.agg y28)] [.agg, .agg, (.int .i64)] fun r29 =>
 C.st 1 (Addr.mk b6 0 none) (.agg r29.1) <|
 C.st 32 (Addr.mk b7 0 none) (.agg r29.2.1) <|
 cond (r29.2.2 == 0) (
 C.ld .agg 1 (Addr.mk b6 0 none) fun v35 =>
 C.st 1 (Addr.mk b3 0 none) (.agg v35) <|
 ct5 [(.int .i64 (IntKind.wrap .i64 (s5 - 1)))]
 ) (
 ct5 [(.int .i64 (IntKind.wrap .i64 (s5 - 1)))]
 ))]),
 (C.new ty_impl_Key (.agg (Array.replicate 32 (.int .u8 0))) fun b7 =>
 C.chk [⟨0, 1, (Addr.mk b3 0 none), .agg, v21⟩] <|
 C.call n_ptr_spec_l00Src_pick [(.pointer (some x0)), (.int .i64 2)] [(.int .i64)] fun r23 =>
 C.chk [⟨0, 1, (Addr.mk b3 0 none), .agg, v21⟩] <|
 C.call n_spec_l06Bytes [(.pointer (some x0)), (.int .i64 5)] [.slice] fun r27 =>
 C.chk [⟨0, 1, (Addr.mk b3 0 none), .agg, v21⟩] <|
 C.pur (Instr.build ty_impl_Blob #[(0, (.int .u8 (IntKind.wrap .u8 ((IntKind.wrap .i64 (1 + r23)))))), (1, (.slice r27.a r27.n r27.c))]) .agg fun y28 =>
 C.call n_spec_PutBlob [(.agg v21), (.agg y28)] [.agg, .agg, (.int .i64)] fun r29 =>
 C.st 1 (Addr.mk b6 0 none) (.agg r29.1) <|
 C.st 32 (Addr.mk b7 0 none) (.agg r29.2.1) <|
 cond (r29.2.2 == 0) (
 C.ld .agg 1 (Addr.mk b6 0 none) fun v35 =>
 C.st 1 (Addr.mk b3 0 none) (.agg v35) <|
 ct5 [(.int .i64 (IntKind.wrap .i64 (s5 - 1)))]
 ) (
 ct5 [(.int .i64 (IntKind.wrap .i64 (s5 - 1)))]
 ))]),
 (C.new ty_impl_Key (.agg (Array.replicate 32 (.int .u8 0))) fun b7 =>
 C.chk [⟨0, 1, (Addr.mk b3 0 none), .agg, v21⟩] <|
 C.all [
 (C.call n_ptr_spec_l00Src_pick [(.pointer (some x0)), (.int .i64 2)] [(.int .i64)] fun r23 =>
 C.chk [⟨0, 1, (Addr.mk b3 0 none), .agg, v21⟩] <|
 C.all [
 (C.call n_spec_l06Bytes [(.pointer (some x0)), (.int .i64 5)] [.slice] fun r27 =>
 C.chk [⟨0, 1, (Addr.mk b3 0 none), .agg, v21⟩] <|
 C.pur (Instr.build ty_impl_Blob #[(0, (.int .u8 (IntKind.wrap .u8 ((IntKind.wrap .i64 (1 + r23)))))), (1, (.slice r27.a r27.n r27.c))]) .agg fun y28 =>
 C.all [
 (C.call n_spec_PutBlob [(.agg v21), (.agg y28)] [.agg, .agg, (.int .i64)] fun r29 =>
 C.new ty_impl_Store (.agg (#[(.slice none 0 0)])) fun b6 =>
 C.st 1 (Addr.mk b6 0 none) (.agg r29.1) <|
 C.st 32 (Addr.mk b7 0 none) (.agg r29.2.1) <|
 cond (r29.2.2 == 0) (
 C.ld .agg 1 (Addr.mk b6 0 none) fun v35 =>
 C.st 1 (Addr.mk b3 0 none) (.agg v35) <|
 ct5 [(.int .i64 (IntKind.wrap .i64 (s5 - 1)))]
 ) (
 ct5 [(.int .i64 (IntKind.wrap .i64 (s5 - 1)))]
 )),
 (C.new ty_impl_Store (.agg (#[(.slice none 0 0)])) fun b6 =>
 C.chk [⟨0, 1, (Addr.mk b3 0 none), .agg, v21⟩] <|
 C.call n_spec_PutBlob [(.agg v21), (.agg y28)] [.agg, .agg, (.int .i64)] fun r29 =>
 C.st 1 (Addr.mk b6 0 none) (.agg r29.1) <|
 C.st 32 (Addr.mk b7 0 none) (.agg r29.2.1) <|
 cond (r29.2.2 == 0) (
 C.ld .agg 1 (Addr.mk b6 0 none) fun v35 =>
 C.st 1 (Addr.mk b3 0 none) (.agg v35) <|
 ct5 [(.int .i64 (IntKind.wrap .i64 (s5 - 1)))]
 ) (
 ct5 [(.int .i64 (IntKind.wrap .i64 (s5 - 1)))]
 ))]),
 (C.new ty_impl_Store (.agg (#[(.slice none 0 0)])) fun b6 =>
 C.chk [⟨0, 1, (Addr.mk b3 0 none), .agg, v21⟩] <|
 C.call n_spec_l06Bytes [(.pointer (some x0)), (.int .i64 5)] [.slice] fun r27 =>
 C.chk [⟨0, 1, (Addr.mk b3 0 none), .agg, v21⟩] <|
 C.pur (Instr.build ty_impl_Blob #[(0, (.int .u8 (IntKind.wrap .u8 ((IntKind.wrap .i64 (1 + r23)))))), (1, (.slice r27.a r27.n r27.c))]) .agg fun y28 =>
 C.call n_spec_PutBlob [(.agg v21), (.agg y28)] [.agg, .agg, (.int .i64)] fun r29 =>
 C.st 1 (Addr.mk b6 0 none) (.agg r29.1) <|
 C.st 32 (Addr.mk b7 0 none) (.agg r29.2.1) <|
 cond (r29.2.2 == 0) (
 C.ld .agg 1 (Addr.mk b6 0 none) fun v35 =>
 C.st 1 (Addr.mk b3 0 none) (.agg v35) <|
 ct5 [(.int .i64 (IntKind.wrap .i64 (s5 - 1)))]
 ) (
 ct5 [(.int .i64 (IntKind.wrap .i64 (s5 - 1)))]
 ))]),
 (C.new ty_impl_Store (.agg (#[(.slice none 0 0)])) fun b6 =>
 C.chk [⟨0, 1, (Addr.mk b3 0 none), .agg, v21⟩] <|
 C.call n_ptr_spec_l00Src_pick [(.pointer (some x0)), (.int .i64 2)] [(.int .i64)] fun r23 =>
 C.chk [⟨0, 1, (Addr.mk b3 0 none), .agg, v21⟩] <|
 C.call n_spec_l06Bytes [(.pointer (some x0)), (.int .i64 5)] [.slice] fun r27 =>
 C.chk [⟨0, 1, (Addr.mk b3 0 none), .agg, v21⟩] <|
 C.pur (Instr.build ty_impl_Blob #[(0, (.int .u8 (IntKind.wrap .u8 ((IntKind.wrap .i64 (1 + r23)))))), (1, (.slice r27.a r27.n r27.c))]) .agg fun y28 =>
 C.call n_spec_PutBlob [(.agg v21), (.agg y28)] [.agg, .agg, (.int .i64)] fun r29 =>
 C.st 1 (Addr.mk b6 0 none) (.agg r29.1) <|
 C.st 32 (Addr.mk b7 0 none) (.agg r29.2.1) <|
 cond (r29.2.2 == 0) (
 C.ld .agg 1 (Addr.mk b6 0 none) fun v35 =>
 C.st 1 (Addr.mk b3 0 none) (.agg v35) <|
 ct5 [(.int .i64 (IntKind.wrap .i64 (s5 - 1)))]
 ) (
 ct5 [(.int .i64 (IntKind.wrap .i64 (s5 - 1)))]
 ))])]
 ) (
 C.ld .agg 1 (Addr.mk b3 0 none) fun v36 =>
 C.st 1 (Addr.mk b2 0 none) (.agg v36) <|
 C.ld .agg 1 (Addr.mk b2 0 none) fun z102 =>
 C.ret (.agg z102)
 )
theorem spec_l06Store_eq (C : Comb) (x0 : Addr) : fT C Tryz.prog ⟨[(3, [(5, (.int .i64))])], [], [5], []⟩ n_spec_l06Store [(.pointer (some x0))] = spec_l06Store C x0 := by kernel_rfl
theorem spec_l06Store_calls {R : Value → World → Prop} {w : World} (x0 : Addr) (h : (spec_l06Store (real Tryz.prog R) x0 : World → Prop) w) :
    Calls Tryz.prog n_spec_l06Store [(.pointer (some x0))].toArray w fun e w' => ∃ v, e = .returned v ∧ R v w' := fT_sound mixed ⟨[(3, [(5, (.int .i64))])], [], [5], []⟩ (by rw [spec_l06Store_eq]; exact h)

def spec_l00From (C : Comb) (x0 : Sl) : C.St :=
 C.pur (Instr.build ty_spec_l00Src #[(0, (.slice x0.a x0.n x0.c))]) .agg fun y4 =>
 C.new ty_spec_l00Src (.agg y4) fun b5 =>
 C.ret (.pointer (some (Addr.mk b5 0 none)))
theorem spec_l00From_eq (C : Comb) (x0 : Sl) : fT C Tryz.prog ⟨[], [], [], []⟩ n_spec_l00From [(.slice x0.a x0.n x0.c)] = spec_l00From C x0 := by kernel_rfl
theorem spec_l00From_calls {R : Value → World → Prop} {w : World} (x0 : Sl) (h : (spec_l00From (real Tryz.prog R) x0 : World → Prop) w) :
    Calls Tryz.prog n_spec_l00From [(.slice x0.a x0.n x0.c)].toArray w fun e w' => ∃ v, e = .returned v ∧ R v w' := fT_sound mixed ⟨[], [], [], []⟩ (by rw [spec_l00From_eq]; exact h)

def spec_l05Open (C : Comb) (x0 : Addr) : C.St :=
 C.pur (Instr.build ty_spec_l05Store #[]) .agg fun y7 =>
 C.new ty_spec_l05Store (.agg y7) fun b8 =>
 C.ld .slice 1 (x0.add 0) fun v12 =>
 cond (decide ((v12.n : Int) > 128)) (
 C.ret (.tuple #[(.pointer (some (Addr.mk b8 0 none))), (.bool false)])
 ) (
 C.loop (TL [(.int .i64)]) (embL [(.int .i64)]) [(.int .i64 0)] fun s4 ct4 => C.any fun _ =>
 C.ld .slice 1 (x0.add 0) fun v20 =>
 cond (decide (s4 < (v20.n : Int))) (
 C.ld .slice 1 (x0.add 0) fun v28 =>
 C.ix v28.a v28.n 2 s4 fun p30 =>
 C.call n_spec_l05Blob [(.pointer (some p30))] [.bool] fun r31 =>
 cond (!r31) (
 C.ret (.tuple #[(.pointer (some (Addr.mk b8 0 none))), (.bool false)])
 ) (
 C.ld .slice 1 (x0.add 0) fun v37 =>
 C.ix v37.a v37.n 2 s4 fun p39 =>
 C.call n_spec_l05Key [(.pointer (some p39))] [.agg] fun r40 =>
 C.new ty_impl_Key (.agg (Array.replicate 32 (.int .u8 0))) fun b6 =>
 C.st 32 (Addr.mk b6 0 none) (.agg r40) <|
 C.join (TL []) (embL []) (fun s26 => C.any fun _ =>
 C.join (TL []) (embL []) (fun s33 => C.any fun _ =>
 C.draw <|
 C.ld .slice 1 ((Addr.mk b8 0 none).add 1) fun v77 =>
 C.ld .agg 32 (Addr.mk b6 0 none) fun v78 =>
 C.sem (Instr.buildSlice ty_sl_impl_Key 1 #[(0, (.agg v78))]) .slice fun y79 =>
 C.chk [⟨4, 1, ((Addr.mk b8 0 none).add 1), .slice, v77⟩] <|
 C.sem (Builtin.append_ #[ty_sl_impl_Key, ty_sl_impl_Key] ty_sl_impl_Key #[(.slice v77.a v77.n v77.c), (.slice y79.a y79.n y79.c)]) .slice fun y80 =>
 C.st 1 ((Addr.mk b8 0 none).add 1) (.slice y80.a y80.n y80.c) <|
 ct4 [(.int .i64 (IntKind.wrap .i64 (s4 + 1)))]
 ) fun jt =>
 C.draw <|
 C.ld .slice 1 ((Addr.mk b8 0 none).add 0) fun v61 =>
 C.ld .slice 1 (x0.add 0) fun v65 =>
 C.ix v65.a v65.n 2 s4 fun p67 =>
 C.ld .agg 2 p67 fun v68 =>
 C.sem (Instr.buildSlice ty_sl_impl_Blob 1 #[(0, (.agg v68))]) .slice fun y69 =>
 C.chk [⟨8, 1, (x0.add 0), .slice, v65⟩, ⟨4, 1, ((Addr.mk b8 0 none).add 0), .slice, v61⟩] <|
 C.sem (Builtin.append_ #[ty_sl_impl_Blob, ty_sl_impl_Blob] ty_sl_impl_Blob #[(.slice v61.a v61.n v61.c), (.slice y69.a y69.n y69.c)]) .slice fun y70 =>
 C.chk [⟨8, 1, (x0.add 0), .slice, v65⟩] <|
 C.st 1 ((Addr.mk b8 0 none).add 0) (.slice y70.a y70.n y70.c) <|
 jt []
 ) fun jt =>
 C.draw <|
 cond (decide (s4 > 0)) (
 C.all [
 (C.ld .slice 1 ((Addr.mk b8 0 none).add 1) fun v47 =>
 C.ix v47.a v47.n 32 (IntKind.wrap .i64 (s4 - 1)) fun p50 =>
 C.all [
 (C.ld .agg 32 p50 fun v51 =>
 C.ld .agg 32 (Addr.mk b6 0 none) fun v52 =>
 C.call n_spec_l01Compare [(.agg v51), (.agg v52)] [(.int .i64)] fun r53 =>
 cond (decide (r53 ≥ 0)) (
 C.ret (.tuple #[(.pointer (some (Addr.mk b8 0 none))), (.bool false)])
 ) (
 jt []
 )),
 (C.ld .agg 32 (Addr.mk b6 0 none) fun v52 =>
 C.ld .agg 32 p50 fun v51 =>
 C.call n_spec_l01Compare [(.agg v51), (.agg v52)] [(.int .i64)] fun r53 =>
 cond (decide (r53 ≥ 0)) (
 C.ret (.tuple #[(.pointer (some (Addr.mk b8 0 none))), (.bool false)])
 ) (
 jt []
 ))]),
 (C.ld .agg 32 (Addr.mk b6 0 none) fun v52 =>
 C.ld .slice 1 ((Addr.mk b8 0 none).add 1) fun v47 =>
 C.ix v47.a v47.n 32 (IntKind.wrap .i64 (s4 - 1)) fun p50 =>
 C.ld .agg 32 p50 fun v51 =>
 C.call n_spec_l01Compare [(.agg v51), (.agg v52)] [(.int .i64)] fun r53 =>
 cond (decide (r53 ≥ 0)) (
 C.ret (.tuple #[(.pointer (some (Addr.mk b8 0 none))), (.bool false)])
 ) (
 jt []
 ))]
 ) (
 C.all [
 (C.all [
 (jt []),
 (jt [])]),
 (jt [])]
 )
 )
 ) (
 C.ret (.tuple #[(.pointer (some (Addr.mk b8 0 none))), (.bool true)])
 )
 )
theorem spec_l05Open_eq (C : Comb) (x0 : Addr) : fT C Tryz.prog ⟨[(5, [(5, (.int .i64))])], [(165, []), (37, [])], [10, 12, 13], []⟩ n_spec_l05Open [(.pointer (some x0))] = spec_l05Open C x0 := by kernel_rfl
theorem spec_l05Open_calls {R : Value → World → Prop} {w : World} (x0 : Addr) (h : (spec_l05Open (real Tryz.prog R) x0 : World → Prop) w) :
    Calls Tryz.prog n_spec_l05Open [(.pointer (some x0))].toArray w fun e w' => ∃ v, e = .returned v ∧ R v w' := fT_sound mixed ⟨[(5, [(5, (.int .i64))])], [(165, []), (37, [])], [10, 12, 13], []⟩ (by rw [spec_l05Open_eq]; exact h)

def spec_l06Pack (C : Comb) (x0 : Addr) : C.St :=
 C.sem (Instr.buildSlice ty_sl_uint8 4 #[(0, (.int .u8 72)), (1, (.int .u8 84)), (2, (.int .u8 80)), (3, (.int .u8 49))]) .slice fun y14 =>
 C.sem (convert ty_sl_uint8 ty_sl_uint8 (.slice y14.a y14.n y14.c)) .slice fun y15 =>
 C.loop (TL [.slice, (.int .i64)]) (embL [.slice, (.int .i64)]) [(.slice y15.a y15.n y15.c), (.int .i64 0)] fun s3 ct3 => C.any fun _ =>
 C.ld .slice 1 (x0.add 0) fun v20 =>
 cond (decide (s3.2 < (v20.n : Int))) (
 C.ld .slice 1 (x0.add 0) fun v28 =>
 C.ix v28.a v28.n 2 s3.2 fun p30 =>
 C.ld .slice 1 (p30.add 1) fun v34 =>
 C.loop (TL [(.int .i64), .slice, (.int .i64)]) (embL [(.int .i64), .slice, (.int .i64)]) [(.int .i64 (-1)), (.slice v34.a v34.n v34.c), (.int .i64 0)] fun s8 ct8 => C.any fun _ =>
 cond (decide (s8.2.2 < s3.2)) (
 C.draw <|
 C.ld .slice 1 (x0.add 0) fun v43 =>
 C.ix v43.a v43.n 2 s8.2.2 fun p45 =>
 C.ld (.int .u8) 1 (p45.add 0) fun v47 =>
 C.ld (.int .u8) 1 (p30.add 0) fun v51 =>
 cond (v47 != v51) (
 ct8 [(.int .i64 s8.1), (.slice s8.2.1.a s8.2.1.n s8.2.1.c), (.int .i64 (IntKind.wrap .i64 (s8.2.2 + 1)))]
 ) (
 C.join (TL [.slice, .bool]) (embL [.slice, .bool]) (fun s18 => C.any fun _ =>
 cond s18.2 (
 C.ld .slice 1 (p30.add 1) fun v77 =>
 cond (decide ((IntKind.wrap .i64 ((s18.1.n : Int) + 1)) < (v77.n : Int))) (
 cond (decide (s8.1 < 0)) (
 ct8 [(.int .i64 s8.2.2), (.slice s18.1.a s18.1.n s18.1.c), (.int .i64 (IntKind.wrap .i64 (s8.2.2 + 1)))]
 ) (
 cond (decide ((s18.1.n : Int) < (s8.2.1.n : Int))) (
 ct8 [(.int .i64 s8.2.2), (.slice s18.1.a s18.1.n s18.1.c), (.int .i64 (IntKind.wrap .i64 (s8.2.2 + 1)))]
 ) (
 ct8 [(.int .i64 s8.1), (.slice s8.2.1.a s8.2.1.n s8.2.1.c), (.int .i64 (IntKind.wrap .i64 (s8.2.2 + 1)))]
 )
 )
 ) (
 ct8 [(.int .i64 s8.1), (.slice s8.2.1.a s8.2.1.n s8.2.1.c), (.int .i64 (IntKind.wrap .i64 (s8.2.2 + 1)))]
 )
 ) (
 ct8 [(.int .i64 s8.1), (.slice s8.2.1.a s8.2.1.n s8.2.1.c), (.int .i64 (IntKind.wrap .i64 (s8.2.2 + 1)))]
 )
 ) fun jt =>
 C.draw <|
 C.ld .slice 1 (x0.add 0) fun v57 =>
 C.ix v57.a v57.n 2 s8.2.2 fun p59 =>
 C.ld .slice 1 (p59.add 1) fun v61 =>
 C.ld .slice 1 (p30.add 1) fun v65 =>
 C.call n_spec_l06Delta [(.slice v61.a v61.n v61.c), (.slice v65.a v65.n v65.c)] [.slice, .bool] fun r66 =>
 C.chk [⟨3, 1, (x0.add 0), .slice, v57⟩] <|
 jt [(.slice r66.1.a r66.1.n r66.1.c), (.bool r66.2)]
 )
 ) (
 C.join (TL [.slice]) (embL [.slice]) (fun s26 => C.any fun _ =>
 C.sem (Instr.buildSlice ty_sl_uint8 2 #[(0, (.int .u8 (IntKind.wrap .u8 ((Int.tmod (s8.2.1.n : Int) 256))))), (1, (.int .u8 (IntKind.wrap .u8 ((IntKind.wrap .i64 (Int.tdiv (s8.2.1.n : Int) 256))))))]) .slice fun y121 =>
 C.sem (Builtin.append_ #[ty_sl_uint8, ty_sl_uint8] ty_sl_uint8 #[(.slice s26.a s26.n s26.c), (.slice y121.a y121.n y121.c)]) .slice fun y122 =>
 C.sem (Builtin.append_ #[ty_sl_uint8, ty_sl_uint8] ty_sl_uint8 #[(.slice y122.a y122.n y122.c), (.slice s8.2.1.a s8.2.1.n s8.2.1.c)]) .slice fun y125 =>
 C.loop (TL [.slice, (.int .i64)]) (embL [.slice, (.int .i64)]) [(.slice y125.a y125.n y125.c), (.int .i64 0)] fun s30 ct30 => C.any fun _ =>
 cond (decide (s30.2 < 4)) (
 C.ld .slice 1 (x0.add 1) fun v134 =>
 C.ix v134.a v134.n 32 s3.2 fun p137 =>
 C.ix (some p137) 32 1 s30.2 fun p138 =>
 C.ld (.int .u8) 1 p138 fun v139 =>
 C.sem (Instr.buildSlice ty_sl_uint8 1 #[(0, (.int .u8 v139))]) .slice fun y140 =>
 C.sem (Builtin.append_ #[ty_sl_uint8, ty_sl_uint8] ty_sl_uint8 #[(.slice s30.1.a s30.1.n s30.1.c), (.slice y140.a y140.n y140.c)]) .slice fun y141 =>
 ct30 [(.slice y141.a y141.n y141.c), (.int .i64 (IntKind.wrap .i64 (s30.2 + 1)))]
 ) (
 ct3 [(.slice s30.1.a s30.1.n s30.1.c), (.int .i64 (IntKind.wrap .i64 (s3.2 + 1)))]
 )
 ) fun jt =>
 cond (decide (s8.1 < 0)) (
 C.ld (.int .u8) 1 (p30.add 0) fun v100 =>
 C.sem (Instr.buildSlice ty_sl_uint8 2 #[(0, (.int .u8 0)), (1, (.int .u8 v100))]) .slice fun y101 =>
 C.sem (Builtin.append_ #[ty_sl_uint8, ty_sl_uint8] ty_sl_uint8 #[(.slice s3.1.a s3.1.n s3.1.c), (.slice y101.a y101.n y101.c)]) .slice fun y102 =>
 jt [(.slice y102.a y102.n y102.c)]
 ) (
 C.ld (.int .u8) 1 (p30.add 0) fun v107 =>
 C.sem (Instr.buildSlice ty_sl_uint8 3 #[(0, (.int .u8 1)), (1, (.int .u8 v107)), (2, (.int .u8 (IntKind.wrap .u8 (s8.1))))]) .slice fun y110 =>
 C.sem (Builtin.append_ #[ty_sl_uint8, ty_sl_uint8] ty_sl_uint8 #[(.slice s3.1.a s3.1.n s3.1.c), (.slice y110.a y110.n y110.c)]) .slice fun y111 =>
 jt [(.slice y111.a y111.n y111.c)]
 )
 )
 ) (
 C.call n_spec_l01Hash [(.int .u8 8), (.slice s3.1.a s3.1.n s3.1.c)] [.agg] fun r143 =>
 C.new ty_impl_Key (.agg (Array.replicate 32 (.int .u8 0))) fun b12 =>
 C.st 32 (Addr.mk b12 0 none) (.agg r143) <|
 C.ld .slice 1 (x0.add 0) fun v148 =>
 C.sem (Instr.buildSlice ty_sl_uint8 2 #[(0, (.int .u8 2)), (1, (.int .u8 (IntKind.wrap .u8 ((v148.n : Int)))))]) .slice fun y151 =>
 C.sem (Builtin.append_ #[ty_sl_uint8, ty_sl_uint8] ty_sl_uint8 #[(.slice s3.1.a s3.1.n s3.1.c), (.slice y151.a y151.n y151.c)]) .slice fun y152 =>
 C.loop (TL [.slice, (.int .i64)]) (embL [.slice, (.int .i64)]) [(.slice y152.a y152.n y152.c), (.int .i64 0)] fun s42 ct42 => C.any fun _ =>
 cond (decide (s42.2 < 32)) (
 C.ix (some (Addr.mk b12 0 none)) 32 1 s42.2 fun p159 =>
 C.ld (.int .u8) 1 p159 fun v160 =>
 C.sem (Instr.buildSlice ty_sl_uint8 1 #[(0, (.int .u8 v160))]) .slice fun y161 =>
 C.sem (Builtin.append_ #[ty_sl_uint8, ty_sl_uint8] ty_sl_uint8 #[(.slice s42.1.a s42.1.n s42.1.c), (.slice y161.a y161.n y161.c)]) .slice fun y162 =>
 ct42 [(.slice y162.a y162.n y162.c), (.int .i64 (IntKind.wrap .i64 (s42.2 + 1)))]
 ) (
 C.ret (.slice s42.1.a s42.1.n s42.1.c)
 )
 )
theorem spec_l06Pack_eq (C : Comb) (x0 : Addr) : fT C Tryz.prog ⟨[(3, [(3, .slice), (4, (.int .i64))]), (9, [(6, (.int .i64)), (7, .slice), (8, (.int .i64))]), (22, [(3, .slice), (11, (.int .i64))]), (28, [(3, .slice), (13, (.int .i64))])], [(37, [(9, .slice), (10, .bool)]), (285, [(3, .slice)])], [12], []⟩ n_spec_l06Pack [(.pointer (some x0))] = spec_l06Pack C x0 := by kernel_rfl
theorem spec_l06Pack_calls {R : Value → World → Prop} {w : World} (x0 : Addr) (h : (spec_l06Pack (real Tryz.prog R) x0 : World → Prop) w) :
    Calls Tryz.prog n_spec_l06Pack [(.pointer (some x0))].toArray w fun e w' => ∃ v, e = .returned v ∧ R v w' := fT_sound mixed ⟨[(3, [(3, .slice), (4, (.int .i64))]), (9, [(6, (.int .i64)), (7, .slice), (8, (.int .i64))]), (22, [(3, .slice), (11, (.int .i64))]), (28, [(3, .slice), (13, (.int .i64))])], [(37, [(9, .slice), (10, .bool)]), (285, [(3, .slice)])], [12], []⟩ (by rw [spec_l06Pack_eq]; exact h)

def ptr_spec_l00Src_pick (C : Comb) (x0 : Addr) (x1 : Int) : C.St :=
 cond (decide (x1 ≤ 1)) (
 C.ret (.int .i64 0)
 ) (
 C.call n_ptr_spec_l00Src_next [(.pointer (some x0))] [(.int .i64)] fun r9 =>
 cond (decide (x1 > 200)) (
 C.call n_ptr_spec_l00Src_next [(.pointer (some x0))] [(.int .i64)] fun r15 =>
 C.pur (eqB .rem ty_int64 (.tmp 17) (.tmp 18) (.int .i64 (IntKind.wrap .i64 ((IntKind.wrap .i64 (r9 * 256)) + r15))) (.int .i64 x1)) (.int .i64) fun y19 =>
 C.ret (.int .i64 y19)
 ) (
 C.pur (eqB .rem ty_int64 (.tmp 17) (.tmp 18) (.int .i64 r9) (.int .i64 x1)) (.int .i64) fun y19 =>
 C.ret (.int .i64 y19)
 )
 )
theorem ptr_spec_l00Src_pick_eq (C : Comb) (x0 : Addr) (x1 : Int) : fT C Tryz.prog ⟨[], [], [], []⟩ n_ptr_spec_l00Src_pick [(.pointer (some x0)), (.int .i64 x1)] = ptr_spec_l00Src_pick C x0 x1 := by kernel_rfl
theorem ptr_spec_l00Src_pick_calls {R : Value → World → Prop} {w : World} (x0 : Addr) (x1 : Int) (h : (ptr_spec_l00Src_pick (real Tryz.prog R) x0 x1 : World → Prop) w) :
    Calls Tryz.prog n_ptr_spec_l00Src_pick [(.pointer (some x0)), (.int .i64 x1)].toArray w fun e w' => ∃ v, e = .returned v ∧ R v w' := fT_sound mixed ⟨[], [], [], []⟩ (by rw [ptr_spec_l00Src_pick_eq]; exact h)

def impl_readPack (C : Comb) (x0 : Sl) : C.St :=
 C.call n_impl_newScan [(.slice x0.a x0.n x0.c)] [.optr, (.int .i64)] fun r14 =>
 cond (r14.2 != 0) (
 C.ret (.tuple #[(.pointer none), (.int .i64 r14.2)])
 ) (
 C.loop (TL []) (embL []) [] fun s2 ct2 => C.any fun _ =>
 dpT C r14.1 fun a3 =>
 C.ld (.int .i64) 1 (a3.add 1) fun v24 =>
 C.sl x0.a x0.n x0.c 1 (some v24) none none fun y25 =>
 C.join (TL [.bool]) (embL [.bool]) (fun s8 => C.any fun _ =>
 cond s8 (
 C.join (TL [.bool]) (embL [.bool]) (fun s13 => C.any fun _ =>
 cond s13 (
 C.ret (.tuple #[(.pointer none), (.int .i64 5)])
 ) (
 C.draw <|
 C.sl y25.a y25.n y25.c 1 (some 2) none none fun y53 =>
 C.pur (Instr.arrayAt ty_impl_Key (.slice y53.a y53.n y53.c)) .ptr fun y54 =>
 C.ld .agg 32 y54 fun v55 =>
 dpT C r14.1 fun a17 =>
 C.ld (.int .i64) 1 (a17.add 1) fun v60 =>
 C.sl x0.a x0.n x0.c 1 none (some v60) none fun y61 =>
 C.call n_impl_keyOfPack [(.slice y61.a y61.n y61.c)] [.agg] fun r62 =>
 C.chk [⟨8, 1, (a17.add 1), (.int .i64), v60⟩, ⟨3, 32, y54, .agg, v55⟩] <|
 C.pur (eqB .neq ty_impl_Key (.tmp 55) (.tmp 62) (.agg v55) (.agg r62)) .bool fun y63 =>
 cond y63 (
 C.ret (.tuple #[(.pointer none), (.int .i64 8)])
 ) (
 C.ret (.tuple #[(.pointer r14.1), (.int .i64 0)])
 )
 )
 ) fun jt =>
 C.draw <|
 C.ix y25.a y25.n 1 1 fun p37 =>
 C.ld (.int .u8) 1 p37 fun v38 =>
 dpT C r14.1 fun a11 =>
 C.ld .slice 1 (a11.add 2) fun v43 =>
 cond ((IntKind.wrap .i64 (v38)) != (v43.n : Int)) (
 jt [(.bool true)]
 ) (
 jt [(.bool (decide ((y25.n : Int) > 34)))]
 )
 ) (
 C.call n_ptr_impl_scan_record [(.pointer r14.1)] [.agg, .agg, (.int .i64), .bool, .bool] fun r67 =>
 C.new ty_impl_Blob (.agg (#[(.int .u8 0), (.slice none 0 0)])) fun b7 =>
 C.new ty_impl_PackEntry (.agg (#[(.int .u8 0), (.int .u8 0), (.int .u8 0), (.int .u8 0), (.int .u8 0), (.int .u8 0), (.int .u8 0), (.int .u8 0), (.int .u8 0), (.int .u8 0), (.int .u8 0), (.int .u8 0), (.int .u8 0), (.int .u8 0), (.int .u8 0), (.int .u8 0), (.int .u8 0), (.int .u8 0), (.int .u8 0), (.int .u8 0), (.int .u8 0), (.int .u8 0), (.int .u8 0), (.int .u8 0), (.int .u8 0), (.int .u8 0), (.int .u8 0), (.int .u8 0), (.int .u8 0), (.int .u8 0), (.int .u8 0), (.int .u8 0), (.int .i64 0), (.int .i64 0), (.int .i64 0)])) fun b8 =>
 C.st 2 (Addr.mk b7 0 none) (.agg r67.1) <|
 C.st 35 (Addr.mk b8 0 none) (.agg r67.2.1) <|
 C.join (TL [.bool]) (embL [.bool]) (fun s27 => C.any fun _ =>
 cond s27 (
 C.ret (.tuple #[(.pointer none), (.int .i64 5)])
 ) (
 cond (!r67.2.2.2.1) (
 C.ret (.tuple #[(.pointer none), (.int .i64 8)])
 ) (
 C.ld .agg 2 (Addr.mk b7 0 none) fun v88 =>
 C.ld .agg 35 (Addr.mk b8 0 none) fun v89 =>
 C.call n_ptr_impl_scan_take [(.pointer r14.1), (.agg v88), (.agg v89), (.int .i64 r67.2.2.1)] [] fun r91 =>
 ct2 []
 )
 )
 ) fun jt =>
 cond (!r67.2.2.2.2) (
 jt [(.bool true)]
 ) (
 dpT C r14.1 fun a25 =>
 C.ld .slice 1 (a25.add 2) fun v80 =>
 jt [(.bool ((v80.n : Int) == 128))]
 )
 )
 ) fun jt =>
 cond (decide ((y25.n : Int) ≥ 34)) (
 C.ix y25.a y25.n 1 0 fun p31 =>
 C.ld (.int .u8) 1 p31 fun v32 =>
 jt [(.bool (v32 == 2))]
 ) (
 jt [(.bool false)]
 )
 )
theorem impl_readPack_eq (C : Comb) (x0 : Sl) : fT C Tryz.prog ⟨[(4, [])], [(16, [(34, .bool)]), (19, [(35, .bool)]), (37, [(73, .bool)])], [8], []⟩ n_impl_readPack [(.slice x0.a x0.n x0.c)] = impl_readPack C x0 := by kernel_rfl
theorem impl_readPack_calls {R : Value → World → Prop} {w : World} (x0 : Sl) (h : (impl_readPack (real Tryz.prog R) x0 : World → Prop) w) :
    Calls Tryz.prog n_impl_readPack [(.slice x0.a x0.n x0.c)].toArray w fun e w' => ∃ v, e = .returned v ∧ R v w' := fT_sound mixed ⟨[(4, [])], [(16, [(34, .bool)]), (19, [(35, .bool)]), (37, [(73, .bool)])], [8], []⟩ (by rw [impl_readPack_eq]; exact h)

def ptr_impl_scan_store (C : Comb) (x0 : Addr) : C.St :=
 C.new ty_impl_Store (.agg (#[(.slice none 0 0)])) fun b2 =>
 C.ld .slice 1 (x0.add 2) fun v6 =>
 C.pur (Instr.build ty_impl_Store #[(0, (.slice v6.a v6.n v6.c))]) .agg fun y7 =>
 C.st 1 (Addr.mk b2 0 none) (.agg y7) <|
 C.ld .agg 1 (Addr.mk b2 0 none) fun z4 =>
 C.ret (.agg z4)
theorem ptr_impl_scan_store_eq (C : Comb) (x0 : Addr) : fT C Tryz.prog ⟨[], [], [], []⟩ n_ptr_impl_scan_store [(.pointer (some x0))] = ptr_impl_scan_store C x0 := by kernel_rfl
theorem ptr_impl_scan_store_calls {R : Value → World → Prop} {w : World} (x0 : Addr) (h : (ptr_impl_scan_store (real Tryz.prog R) x0 : World → Prop) w) :
    Calls Tryz.prog n_ptr_impl_scan_store [(.pointer (some x0))].toArray w fun e w' => ∃ v, e = .returned v ∧ R v w' := fT_sound mixed ⟨[], [], [], []⟩ (by rw [ptr_impl_scan_store_eq]; exact h)

def impl_scanPack (C : Comb) (x0 : Sl) : C.St :=
 C.call n_impl_newScan [(.slice x0.a x0.n x0.c)] [.optr, (.int .i64)] fun r13 =>
 cond (r13.2 != 0) (
 C.ret (.tuple #[(.pointer none), (.int .i64 r13.2)])
 ) (
 C.loop (TL []) (embL []) [] fun s2 ct2 => C.any fun _ =>
 dpT C r13.1 fun a3 =>
 C.ld .slice 1 (a3.add 2) fun v22 =>
 cond (decide ((v22.n : Int) < 128)) (
 C.call n_ptr_impl_scan_record [(.pointer r13.1)] [.agg, .agg, (.int .i64), .bool, .bool] fun r27 =>
 C.new ty_impl_Blob (.agg (#[(.int .u8 0), (.slice none 0 0)])) fun b6 =>
 C.new ty_impl_PackEntry (.agg (#[(.int .u8 0), (.int .u8 0), (.int .u8 0), (.int .u8 0), (.int .u8 0), (.int .u8 0), (.int .u8 0), (.int .u8 0), (.int .u8 0), (.int .u8 0), (.int .u8 0), (.int .u8 0), (.int .u8 0), (.int .u8 0), (.int .u8 0), (.int .u8 0), (.int .u8 0), (.int .u8 0), (.int .u8 0), (.int .u8 0), (.int .u8 0), (.int .u8 0), (.int .u8 0), (.int .u8 0), (.int .u8 0), (.int .u8 0), (.int .u8 0), (.int .u8 0), (.int .u8 0), (.int .u8 0), (.int .u8 0), (.int .u8 0), (.int .i64 0), (.int .i64 0), (.int .i64 0)])) fun b7 =>
 C.st 2 (Addr.mk b6 0 none) (.agg r27.1) <|
 C.st 35 (Addr.mk b7 0 none) (.agg r27.2.1) <|
 cond (!r27.2.2.2.2) (
 C.ret (.tuple #[(.pointer r13.1), (.int .i64 0)])
 ) (
 cond (!r27.2.2.2.1) (
 C.ret (.tuple #[(.pointer r13.1), (.int .i64 0)])
 ) (
 C.ld .agg 2 (Addr.mk b6 0 none) fun v40 =>
 C.ld .agg 35 (Addr.mk b7 0 none) fun v41 =>
 C.call n_ptr_impl_scan_take [(.pointer r13.1), (.agg v40), (.agg v41), (.int .i64 r27.2.2.1)] [] fun r43 =>
 ct2 []
 )
 )
 ) (
 C.ret (.tuple #[(.pointer r13.1), (.int .i64 0)])
 )
 )
theorem impl_scanPack_eq (C : Comb) (x0 : Sl) : fT C Tryz.prog ⟨[(4, [])], [], [], []⟩ n_impl_scanPack [(.slice x0.a x0.n x0.c)] = impl_scanPack C x0 := by kernel_rfl
theorem impl_scanPack_calls {R : Value → World → Prop} {w : World} (x0 : Sl) (h : (impl_scanPack (real Tryz.prog R) x0 : World → Prop) w) :
    Calls Tryz.prog n_impl_scanPack [(.slice x0.a x0.n x0.c)].toArray w fun e w' => ∃ v, e = .returned v ∧ R v w' := fT_sound mixed ⟨[(4, [])], [], [], []⟩ (by rw [impl_scanPack_eq]; exact h)

def impl_pack (C : Comb) (x0 : Array Value) : C.St :=
 C.new ty_impl_Store (.agg x0) fun b1 =>
 C.sem (Instr.buildSlice ty_sl_uint8 4 #[(0, (.int .u8 72)), (1, (.int .u8 84)), (2, (.int .u8 80)), (3, (.int .u8 49))]) .slice fun y14 =>
 C.sem (convert ty_sl_uint8 ty_sl_uint8 (.slice y14.a y14.n y14.c)) .slice fun y15 =>
 C.ld .slice 1 ((Addr.mk b1 0 none).add 0) fun v17 =>
 C.loop (TL [.slice, (.int .i64)]) (embL [.slice, (.int .i64)]) [(.slice y15.a y15.n y15.c), (.int .i64 0)] fun s5 ct5 => C.any fun _ =>
 cond (decide (s5.2 < (v17.n : Int))) (
 C.ix v17.a v17.n 2 s5.2 fun p22 =>
 C.ld .agg 2 p22 fun v23 =>
 C.new ty_impl_Blob (.agg (#[(.int .u8 0), (.slice none 0 0)])) fun b5 =>
 C.st 2 (Addr.mk b5 0 none) (.agg v23) <|
 C.ld .slice 1 ((Addr.mk b1 0 none).add 0) fun v25 =>
 C.sl v25.a v25.n v25.c 2 none (some s5.2) none fun y27 =>
 C.loop (TL [.slice, (.int .i64), (.int .i64)]) (embL [.slice, (.int .i64), (.int .i64)]) [(.slice none 0 0), (.int .i64 (-1)), (.int .i64 0)] fun s11 ct11 => C.any fun _ =>
 cond (decide (s11.2.2 < (y27.n : Int))) (
 C.ix y27.a y27.n 2 s11.2.2 fun p32 =>
 C.ld .agg 2 p32 fun v33 =>
 C.new ty_impl_Blob (.agg (#[(.int .u8 0), (.slice none 0 0)])) fun b9 =>
 C.st 2 (Addr.mk b9 0 none) (.agg v33) <|
 C.ld (.int .u8) 1 ((Addr.mk b9 0 none).add 0) fun v35 =>
 C.ld (.int .u8) 1 ((Addr.mk b5 0 none).add 0) fun v37 =>
 cond (v35 != v37) (
 ct11 [(.slice s11.1.a s11.1.n s11.1.c), (.int .i64 s11.2.1), (.int .i64 (IntKind.wrap .i64 (s11.2.2 + 1)))]
 ) (
 C.ld .slice 1 ((Addr.mk b9 0 none).add 1) fun v41 =>
 C.ld .slice 1 ((Addr.mk b5 0 none).add 1) fun v43 =>
 C.call n_impl_DeltaOf [(.slice v41.a v41.n v41.c), (.slice v43.a v43.n v43.c)] [.slice, (.int .i64)] fun r44 =>
 cond (r44.2 == 0) (
 cond (decide (s11.2.1 < 0)) (
 ct11 [(.slice r44.1.a r44.1.n r44.1.c), (.int .i64 s11.2.2), (.int .i64 (IntKind.wrap .i64 (s11.2.2 + 1)))]
 ) (
 cond (decide ((r44.1.n : Int) < (s11.1.n : Int))) (
 ct11 [(.slice r44.1.a r44.1.n r44.1.c), (.int .i64 s11.2.2), (.int .i64 (IntKind.wrap .i64 (s11.2.2 + 1)))]
 ) (
 ct11 [(.slice s11.1.a s11.1.n s11.1.c), (.int .i64 s11.2.1), (.int .i64 (IntKind.wrap .i64 (s11.2.2 + 1)))]
 )
 )
 ) (
 ct11 [(.slice s11.1.a s11.1.n s11.1.c), (.int .i64 s11.2.1), (.int .i64 (IntKind.wrap .i64 (s11.2.2 + 1)))]
 )
 )
 ) (
 C.join (TL [.slice, .slice]) (embL [.slice, .slice]) (fun s29 => C.any fun _ =>
 C.ld .agg 2 (Addr.mk b5 0 none) fun v88 =>
 C.call n_impl_Blob_key [(.agg v88)] [.agg] fun r89 =>
 C.new ty_impl_Key (.agg (Array.replicate 32 (.int .u8 0))) fun b12 =>
 C.st 32 (Addr.mk b12 0 none) (.agg r89) <|
 C.draw <|
 C.sl (some (Addr.mk b12 0 none)) 32 32 1 none (some 4) none fun y98 =>
 C.call n_impl_appendLittle [(.slice s29.1.a s29.1.n s29.1.c), (.int .u64 (IntKind.wrap .u64 ((IntKind.wrap .u16 ((s29.2.n : Int)))))), (.int .i64 2)] [.slice] fun r95 =>
 C.sem (Builtin.append_ #[ty_sl_uint8, ty_sl_uint8] ty_sl_uint8 #[(.slice r95.a r95.n r95.c), (.slice s29.2.a s29.2.n s29.2.c)]) .slice fun y97 =>
 C.sem (Builtin.append_ #[ty_sl_uint8, ty_sl_uint8] ty_sl_uint8 #[(.slice y97.a y97.n y97.c), (.slice y98.a y98.n y98.c)]) .slice fun y99 =>
 ct5 [(.slice y99.a y99.n y99.c), (.int .i64 (IntKind.wrap .i64 (s5.2 + 1)))]
 ) fun jt =>
 C.join (TL [.bool]) (embL [.bool]) (fun s21 => C.any fun _ =>
 cond s21 (
 C.ld (.int .u8) 1 ((Addr.mk b5 0 none).add 0) fun v76 =>
 C.sem (Instr.buildSlice ty_sl_uint8 3 #[(0, (.int .u8 1)), (1, (.int .u8 v76)), (2, (.int .u8 (IntKind.wrap .u8 (s11.2.1))))]) .slice fun y79 =>
 C.sem (Builtin.append_ #[ty_sl_uint8, ty_sl_uint8] ty_sl_uint8 #[(.slice s5.1.a s5.1.n s5.1.c), (.slice y79.a y79.n y79.c)]) .slice fun y80 =>
 jt [(.slice y80.a y80.n y80.c), (.slice s11.1.a s11.1.n s11.1.c)]
 ) (
 C.draw <|
 C.ld (.int .u8) 1 ((Addr.mk b5 0 none).add 0) fun v83 =>
 C.ld .slice 1 ((Addr.mk b5 0 none).add 1) fun v87 =>
 C.sem (Instr.buildSlice ty_sl_uint8 2 #[(0, (.int .u8 0)), (1, (.int .u8 v83))]) .slice fun y84 =>
 C.chk [⟨6, 1, ((Addr.mk b5 0 none).add 1), .slice, v87⟩] <|
 C.sem (Builtin.append_ #[ty_sl_uint8, ty_sl_uint8] ty_sl_uint8 #[(.slice s5.1.a s5.1.n s5.1.c), (.slice y84.a y84.n y84.c)]) .slice fun y85 =>
 C.chk [⟨6, 1, ((Addr.mk b5 0 none).add 1), .slice, v87⟩] <|
 jt [(.slice y85.a y85.n y85.c), (.slice v87.a v87.n v87.c)]
 )
 ) fun jt1 =>
 cond (decide (s11.2.1 ≥ 0)) (
 C.ld .slice 1 ((Addr.mk b5 0 none).add 1) fun v70 =>
 jt1 [(.bool (decide ((IntKind.wrap .i64 ((s11.1.n : Int) + 1)) < (v70.n : Int))))]
 ) (
 jt1 [(.bool false)]
 )
 )
 ) (
 C.call n_impl_keyOfPack [(.slice s5.1.a s5.1.n s5.1.c)] [.agg] fun r102 =>
 C.new ty_impl_Key (.agg (Array.replicate 32 (.int .u8 0))) fun b13 =>
 C.st 32 (Addr.mk b13 0 none) (.agg r102) <|
 C.draw <|
 C.ld .slice 1 ((Addr.mk b1 0 none).add 0) fun v105 =>
 C.sl (some (Addr.mk b13 0 none)) 32 32 1 none none none fun y110 =>
 C.sem (Instr.buildSlice ty_sl_uint8 2 #[(0, (.int .u8 2)), (1, (.int .u8 (IntKind.wrap .u8 ((v105.n : Int)))))]) .slice fun y108 =>
 C.chk [⟨2, 1, ((Addr.mk b1 0 none).add 0), .slice, v105⟩] <|
 C.sem (Builtin.append_ #[ty_sl_uint8, ty_sl_uint8] ty_sl_uint8 #[(.slice s5.1.a s5.1.n s5.1.c), (.slice y108.a y108.n y108.c)]) .slice fun y109 =>
 C.chk [⟨2, 1, ((Addr.mk b1 0 none).add 0), .slice, v105⟩] <|
 C.sem (Builtin.append_ #[ty_sl_uint8, ty_sl_uint8] ty_sl_uint8 #[(.slice y109.a y109.n y109.c), (.slice y110.a y110.n y110.c)]) .slice fun y111 =>
 C.chk [⟨2, 1, ((Addr.mk b1 0 none).add 0), .slice, v105⟩] <|
 C.ret (.slice y111.a y111.n y111.c)
 )
theorem impl_pack_eq (C : Comb) (x0 : Array Value) : fT C Tryz.prog ⟨[(3, [(3, .slice), (19, (.int .i64))]), (7, [(6, .slice), (7, (.int .i64)), (29, (.int .i64))])], [(43, [(73, .bool)]), (219, [(3, .slice), (6, .slice)])], [16, 18, 21], []⟩ n_impl_pack [(.agg x0)] = impl_pack C x0 := by kernel_rfl
theorem impl_pack_calls {R : Value → World → Prop} {w : World} (x0 : Array Value) (h : (impl_pack (real Tryz.prog R) x0 : World → Prop) w) :
    Calls Tryz.prog n_impl_pack [(.agg x0)].toArray w fun e w' => ∃ v, e = .returned v ∧ R v w' := fT_sound mixed ⟨[(3, [(3, .slice), (19, (.int .i64))]), (7, [(6, .slice), (7, (.int .i64)), (29, (.int .i64))])], [(43, [(73, .bool)]), (219, [(3, .slice), (6, .slice)])], [16, 18, 21], []⟩ (by rw [impl_pack_eq]; exact h)

def spec_l05SameBlob (C : Comb) (x0 : Addr) (x1 : Addr) : C.St :=
 C.draw <|
 C.ld (.int .u8) 1 (x0.add 0) fun v8 =>
 C.ld (.int .u8) 1 (x1.add 0) fun v12 =>
 cond (v8 == v12) (
 C.all [
 (C.ld .slice 1 (x0.add 1) fun v18 =>
 C.chk [⟨7, 1, (x1.add 0), (.int .u8), v12⟩, ⟨3, 1, (x0.add 0), (.int .u8), v8⟩] <|
 C.ld .slice 1 (x1.add 1) fun v22 =>
 C.chk [⟨7, 1, (x1.add 0), (.int .u8), v12⟩, ⟨3, 1, (x0.add 0), (.int .u8), v8⟩] <|
 C.call n_spec_l01Bytes [(.slice v18.a v18.n v18.c), (.slice v22.a v22.n v22.c)] [.bool] fun r23 =>
 C.chk [⟨7, 1, (x1.add 0), (.int .u8), v12⟩, ⟨3, 1, (x0.add 0), (.int .u8), v8⟩] <|
 C.ret (.bool r23)),
 (C.ld .slice 1 (x1.add 1) fun v22 =>
 C.chk [⟨7, 1, (x1.add 0), (.int .u8), v12⟩, ⟨3, 1, (x0.add 0), (.int .u8), v8⟩] <|
 C.ld .slice 1 (x0.add 1) fun v18 =>
 C.chk [⟨7, 1, (x1.add 0), (.int .u8), v12⟩, ⟨3, 1, (x0.add 0), (.int .u8), v8⟩] <|
 C.call n_spec_l01Bytes [(.slice v18.a v18.n v18.c), (.slice v22.a v22.n v22.c)] [.bool] fun r23 =>
 C.chk [⟨7, 1, (x1.add 0), (.int .u8), v12⟩, ⟨3, 1, (x0.add 0), (.int .u8), v8⟩] <|
 C.ret (.bool r23))]
 ) (
 C.all [
 (C.chk [⟨7, 1, (x1.add 0), (.int .u8), v12⟩, ⟨3, 1, (x0.add 0), (.int .u8), v8⟩] <|
 C.chk [⟨7, 1, (x1.add 0), (.int .u8), v12⟩, ⟨3, 1, (x0.add 0), (.int .u8), v8⟩] <|
 C.chk [⟨7, 1, (x1.add 0), (.int .u8), v12⟩, ⟨3, 1, (x0.add 0), (.int .u8), v8⟩] <|
 C.ret (.bool false)),
 (C.chk [⟨7, 1, (x1.add 0), (.int .u8), v12⟩, ⟨3, 1, (x0.add 0), (.int .u8), v8⟩] <|
 C.chk [⟨7, 1, (x1.add 0), (.int .u8), v12⟩, ⟨3, 1, (x0.add 0), (.int .u8), v8⟩] <|
 C.chk [⟨7, 1, (x1.add 0), (.int .u8), v12⟩, ⟨3, 1, (x0.add 0), (.int .u8), v8⟩] <|
 C.ret (.bool false))]
 )
theorem spec_l05SameBlob_eq (C : Comb) (x0 : Addr) (x1 : Addr) : fT C Tryz.prog ⟨[], [], [1], []⟩ n_spec_l05SameBlob [(.pointer (some x0)), (.pointer (some x1))] = spec_l05SameBlob C x0 x1 := by kernel_rfl
theorem spec_l05SameBlob_calls {R : Value → World → Prop} {w : World} (x0 : Addr) (x1 : Addr) (h : (spec_l05SameBlob (real Tryz.prog R) x0 x1 : World → Prop) w) :
    Calls Tryz.prog n_spec_l05SameBlob [(.pointer (some x0)), (.pointer (some x1))].toArray w fun e w' => ∃ v, e = .returned v ∧ R v w' := fT_sound mixed ⟨[], [], [1], []⟩ (by rw [spec_l05SameBlob_eq]; exact h)

def impl_within (C : Comb) (x0 : Int) (x1 : Int) (x2 : Int) : C.St :=
 cond (decide (x0 ≥ x1)) (
 C.ret (.bool (decide (x0 ≤ x2)))
 ) (
 C.ret (.bool false)
 )
theorem impl_within_eq (C : Comb) (x0 : Int) (x1 : Int) (x2 : Int) : fT C Tryz.prog ⟨[], [], [], []⟩ n_impl_within [(.int .i64 x0), (.int .i64 x1), (.int .i64 x2)] = impl_within C x0 x1 x2 := by kernel_rfl
theorem impl_within_calls {R : Value → World → Prop} {w : World} (x0 : Int) (x1 : Int) (x2 : Int) (h : (impl_within (real Tryz.prog R) x0 x1 x2 : World → Prop) w) :
    Calls Tryz.prog n_impl_within [(.int .i64 x0), (.int .i64 x1), (.int .i64 x2)].toArray w fun e w' => ∃ v, e = .returned v ∧ R v w' := fT_sound mixed ⟨[], [], [], []⟩ (by rw [impl_within_eq]; exact h)

def impl_size_byte (C : Comb) (x0 : Sl) : C.St :=
 C.ret (.int .i64 (x0.n : Int))
theorem impl_size_byte_eq (C : Comb) (x0 : Sl) : fT C Tryz.prog ⟨[], [], [], []⟩ n_impl_size_byte [(.slice x0.a x0.n x0.c)] = impl_size_byte C x0 := by kernel_rfl
theorem impl_size_byte_calls {R : Value → World → Prop} {w : World} (x0 : Sl) (h : (impl_size_byte (real Tryz.prog R) x0 : World → Prop) w) :
    Calls Tryz.prog n_impl_size_byte [(.slice x0.a x0.n x0.c)].toArray w fun e w' => ∃ v, e = .returned v ∧ R v w' := fT_sound mixed ⟨[], [], [], []⟩ (by rw [impl_size_byte_eq]; exact h)

def slices_Clone_sl_byte_byte (C : Comb) (x0 : Sl) : C.St :=
 C.pur (eqB .eql ty_sl_uint8 (.tmp 3) (.const (.slice none 0 0)) (.slice x0.a x0.n x0.c) (.slice none 0 0)) .bool fun y4 =>
 cond y4 (
 C.ret (.slice none 0 0)
 ) (
 C.sem (Instr.buildSlice ty_sl_uint8 0 #[]) .slice fun y5 =>
 C.sem (Builtin.append_ #[ty_sl_uint8, ty_sl_uint8] ty_sl_uint8 #[(.slice y5.a y5.n y5.c), (.slice x0.a x0.n x0.c)]) .slice fun y7 =>
 C.ret (.slice y7.a y7.n y7.c)
 )
theorem slices_Clone_sl_byte_byte_eq (C : Comb) (x0 : Sl) : fT C Tryz.prog ⟨[], [], [], []⟩ n_slices_Clone_sl_byte_byte [(.slice x0.a x0.n x0.c)] = slices_Clone_sl_byte_byte C x0 := by kernel_rfl
theorem slices_Clone_sl_byte_byte_calls {R : Value → World → Prop} {w : World} (x0 : Sl) (h : (slices_Clone_sl_byte_byte (real Tryz.prog R) x0 : World → Prop) w) :
    Calls Tryz.prog n_slices_Clone_sl_byte_byte [(.slice x0.a x0.n x0.c)].toArray w fun e w' => ∃ v, e = .returned v ∧ R v w' := fT_sound mixed ⟨[], [], [], []⟩ (by rw [slices_Clone_sl_byte_byte_eq]; exact h)

def spec_l01Bytes (C : Comb) (x0 : Sl) (x1 : Sl) : C.St :=
 cond ((x0.n : Int) != (x1.n : Int)) (
 C.ret (.bool false)
 ) (
 C.loop (TL [(.int .i64)]) (embL [(.int .i64)]) [(.int .i64 0)] fun s1 ct1 => C.any fun _ =>
 cond (decide (s1 < (x0.n : Int))) (
 C.draw <|
 C.ix x0.a x0.n 1 s1 fun p19 =>
 C.ld (.int .u8) 1 p19 fun v20 =>
 C.ix x1.a x1.n 1 s1 fun p23 =>
 C.ld (.int .u8) 1 p23 fun v24 =>
 cond (v20 != v24) (
 C.ret (.bool false)
 ) (
 ct1 [(.int .i64 (IntKind.wrap .i64 (s1 + 1)))]
 )
 ) (
 C.ret (.bool true)
 )
 )
theorem spec_l01Bytes_eq (C : Comb) (x0 : Sl) (x1 : Sl) : fT C Tryz.prog ⟨[(4, [(5, (.int .i64))])], [], [], []⟩ n_spec_l01Bytes [(.slice x0.a x0.n x0.c), (.slice x1.a x1.n x1.c)] = spec_l01Bytes C x0 x1 := by kernel_rfl
theorem spec_l01Bytes_calls {R : Value → World → Prop} {w : World} (x0 : Sl) (x1 : Sl) (h : (spec_l01Bytes (real Tryz.prog R) x0 x1 : World → Prop) w) :
    Calls Tryz.prog n_spec_l01Bytes [(.slice x0.a x0.n x0.c), (.slice x1.a x1.n x1.c)].toArray w fun e w' => ∃ v, e = .returned v ∧ R v w' := fT_sound mixed ⟨[(4, [(5, (.int .i64))])], [], [], []⟩ (by rw [spec_l01Bytes_eq]; exact h)

def impl_keyOfPack (C : Comb) (x0 : Sl) : C.St :=
 C.new ty_impl_Key (.agg (Array.replicate 32 (.int .u8 0))) fun b2 =>
 C.call n_impl_hash [(.int .u8 8), (.slice x0.a x0.n x0.c)] [.agg] fun r4 =>
 C.st 32 (Addr.mk b2 0 none) (.agg r4) <|
 C.ld .agg 32 (Addr.mk b2 0 none) fun z3 =>
 C.ret (.agg z3)
theorem impl_keyOfPack_eq (C : Comb) (x0 : Sl) : fT C Tryz.prog ⟨[], [], [], []⟩ n_impl_keyOfPack [(.slice x0.a x0.n x0.c)] = impl_keyOfPack C x0 := by kernel_rfl
theorem impl_keyOfPack_calls {R : Value → World → Prop} {w : World} (x0 : Sl) (h : (impl_keyOfPack (real Tryz.prog R) x0 : World → Prop) w) :
    Calls Tryz.prog n_impl_keyOfPack [(.slice x0.a x0.n x0.c)].toArray w fun e w' => ∃ v, e = .returned v ∧ R v w' := fT_sound mixed ⟨[], [], [], []⟩ (by rw [impl_keyOfPack_eq]; exact h)

def impl_compareKeys (C : Comb) (x0 : Array Value) (x1 : Array Value) : C.St :=
 C.new ty_impl_Key (.agg x0) fun b2 =>
 C.new ty_impl_Key (.agg x1) fun b3 =>
 C.draw <|
 C.sl (some (Addr.mk b2 0 none)) 32 32 1 none none none fun y5 =>
 C.sl (some (Addr.mk b3 0 none)) 32 32 1 none none none fun y6 =>
 C.callQ n_slices_Compare_sl_byte_byte [(.slice y5.a y5.n y5.c), (.slice y6.a y6.n y6.c)] [(.int .i64)] fun r7 =>
 C.ret (.int .i64 r7)
theorem impl_compareKeys_eq (C : Comb) (x0 : Array Value) (x1 : Array Value) : fT C Tryz.prog ⟨[], [], [], []⟩ n_impl_compareKeys [(.agg x0), (.agg x1)] = impl_compareKeys C x0 x1 := by kernel_rfl
theorem impl_compareKeys_calls {R : Value → World → Prop} {w : World} (x0 : Array Value) (x1 : Array Value) (h : (impl_compareKeys (real Tryz.prog R) x0 x1 : World → Prop) w) :
    Calls Tryz.prog n_impl_compareKeys [(.agg x0), (.agg x1)].toArray w fun e w' => ∃ v, e = .returned v ∧ R v w' := fT_sound mixed ⟨[], [], [], []⟩ (by rw [impl_compareKeys_eq]; exact h)

def spec_l01Compare (C : Comb) (x0 : Array Value) (x1 : Array Value) : C.St :=
 C.new ty_impl_Key (.agg x0) fun b2 =>
 C.new ty_impl_Key (.agg x1) fun b3 =>
 C.loop (TL [(.int .i64)]) (embL [(.int .i64)]) [(.int .i64 0)] fun s3 ct3 => C.any fun _ =>
 cond (decide (s3 < 32)) (
 C.draw <|
 C.ix (some (Addr.mk b2 0 none)) 32 1 s3 fun p11 =>
 C.ld (.int .u8) 1 p11 fun v12 =>
 C.ix (some (Addr.mk b3 0 none)) 32 1 s3 fun p14 =>
 C.ld (.int .u8) 1 p14 fun v15 =>
 cond (v12 != v15) (
 C.draw <|
 C.ix (some (Addr.mk b2 0 none)) 32 1 s3 fun p18 =>
 C.ld (.int .u8) 1 p18 fun v19 =>
 C.ix (some (Addr.mk b3 0 none)) 32 1 s3 fun p21 =>
 C.ld (.int .u8) 1 p21 fun v22 =>
 cond (decide (v19 < v22)) (
 C.ret (.int .i64 (-1))
 ) (
 C.ret (.int .i64 1)
 )
 ) (
 ct3 [(.int .i64 (IntKind.wrap .i64 (s3 + 1)))]
 )
 ) (
 C.ret (.int .i64 0)
 )
theorem spec_l01Compare_eq (C : Comb) (x0 : Array Value) (x1 : Array Value) : fT C Tryz.prog ⟨[(2, [(5, (.int .i64))])], [], [], []⟩ n_spec_l01Compare [(.agg x0), (.agg x1)] = spec_l01Compare C x0 x1 := by kernel_rfl
theorem spec_l01Compare_calls {R : Value → World → Prop} {w : World} (x0 : Array Value) (x1 : Array Value) (h : (spec_l01Compare (real Tryz.prog R) x0 x1 : World → Prop) w) :
    Calls Tryz.prog n_spec_l01Compare [(.agg x0), (.agg x1)].toArray w fun e w' => ∃ v, e = .returned v ∧ R v w' := fT_sound mixed ⟨[(2, [(5, (.int .i64))])], [], [], []⟩ (by rw [spec_l01Compare_eq]; exact h)

def spec_l05Drawn (C : Comb) (x0 : Addr) : C.St :=
 C.new ty_impl_Store (.agg (#[(.slice none 0 0)])) fun b2 =>
 C.pur (Instr.build ty_impl_Store #[]) .agg fun y12 =>
 C.new ty_impl_Store (.agg (#[(.slice none 0 0)])) fun b4 =>
 C.st 1 (Addr.mk b4 0 none) (.agg y12) <|
 C.sem (Instr.buildSlice ty_sl_impl_Key 0 #[]) .slice fun y13 =>
 C.call n_ptr_spec_l00Src_pick [(.pointer (some x0)), (.int .i64 4)] [(.int .i64)] fun r15 =>
 C.loop (TL [.slice, (.int .i64)]) (embL [.slice, (.int .i64)]) [(.slice y13.a y13.n y13.c), (.int .i64 r15)] fun s6 ct6 => C.any fun _ =>
 cond (decide (s6.2 > 0)) (
 C.new ty_impl_Key (.agg (Array.replicate 32 (.int .u8 0))) fun b7 =>
 C.st 32 (Addr.mk b7 0 none) (.agg (Array.replicate 32 (.int .u8 0))) <|
 C.ld .agg 1 (Addr.mk b4 0 none) fun v21 =>
 C.new ty_impl_Store (.agg (#[(.slice none 0 0)])) fun b8 =>
 C.st 1 (Addr.mk b8 0 none) (.agg v21) <|
 C.join (TL [(.int .i64)]) (embL [(.int .i64)]) (fun s32 => C.any fun _ =>
 cond (s32 == 0) (
 C.ld .agg 1 (Addr.mk b8 0 none) fun v71 =>
 C.st 1 (Addr.mk b4 0 none) (.agg v71) <|
 C.ld .agg 32 (Addr.mk b7 0 none) fun v73 =>
 C.sem (Instr.buildSlice ty_sl_impl_Key 1 #[(0, (.agg v73))]) .slice fun y74 =>
 C.sem (Builtin.append_ #[ty_sl_impl_Key, ty_sl_impl_Key] ty_sl_impl_Key #[(.slice s6.1.a s6.1.n s6.1.c), (.slice y74.a y74.n y74.c)]) .slice fun y75 =>
 ct6 [(.slice y75.a y75.n y75.c), (.int .i64 (IntKind.wrap .i64 (s6.2 - 1)))]
 ) (
 ct6 [(.slice s6.1.a s6.1.n s6.1.c), (.int .i64 (IntKind.wrap .i64 (s6.2 - 1)))]
 )
 ) fun jt =>
 C.call n_ptr_spec_l00Src_pick [(.pointer (some x0)), (.int .i64 4)] [(.int .i64)] fun r23 =>
 cond (r23 == 0) (
 C.draw <|
 C.ld .agg 1 (Addr.mk b4 0 none) fun v27 =>
 C.call n_spec_l04Drawn [(.pointer (some x0)), (.int .i64 5)] [.slice] fun r29 =>
 C.chk [⟨0, 1, (Addr.mk b4 0 none), .agg, v27⟩] <|
 C.call n_spec_StoreMap [(.agg v27), (.slice r29.a r29.n r29.c)] [.agg, .agg, (.int .i64)] fun r30 =>
 C.st 1 (Addr.mk b8 0 none) (.agg r30.1) <|
 C.st 32 (Addr.mk b7 0 none) (.agg r30.2.1) <|
 jt [(.int .i64 r30.2.2)]
 ) (
 cond (r23 == 1) (
 C.draw <|
 C.ld .agg 1 (Addr.mk b4 0 none) fun v37 =>
 C.call n_spec_l05DrawChunks [(.pointer (some x0)), (.int .i64 5)] [.slice] fun r39 =>
 C.chk [⟨0, 1, (Addr.mk b4 0 none), .agg, v37⟩] <|
 C.call n_spec_StoreList [(.agg v37), (.slice r39.a r39.n r39.c)] [.agg, .agg, (.int .i64)] fun r40 =>
 C.st 1 (Addr.mk b8 0 none) (.agg r40.1) <|
 C.st 32 (Addr.mk b7 0 none) (.agg r40.2.1) <|
 jt [(.int .i64 r40.2.2)]
 ) (
 cond (r23 == 2) (
 C.ld .agg 1 (Addr.mk b4 0 none) fun v47 =>
 C.call n_spec_PutFolder [(.agg v47), (.slice s6.1.a s6.1.n s6.1.c)] [.agg, .agg, (.int .i64)] fun r49 =>
 C.st 1 (Addr.mk b8 0 none) (.agg r49.1) <|
 C.st 32 (Addr.mk b7 0 none) (.agg r49.2.1) <|
 jt [(.int .i64 r49.2.2)]
 ) (
 cond (r23 == 3) (
 C.draw <|
 C.ld .agg 1 (Addr.mk b4 0 none) fun v56 =>
 C.all [
 (C.call n_ptr_spec_l00Src_pick [(.pointer (some x0)), (.int .i64 9)] [(.int .i64)] fun r58 =>
 C.chk [⟨0, 1, (Addr.mk b4 0 none), .agg, v56⟩] <|
 C.sem (Instr.buildSlice ty_sl_string 3 #[(0, (.string (⟨#[]⟩ : ByteArray))), (1, (.string (⟨#[120]⟩ : ByteArray))), (2, (.string (⟨#[98, 108, 111, 98]⟩ : ByteArray)))]) .slice fun y61 =>
 C.chk [⟨0, 1, (Addr.mk b4 0 none), .agg, v56⟩] <|
 C.call n_ptr_spec_l00Src_text [(.pointer (some x0)), (.slice y61.a y61.n y61.c)] [.str] fun r62 =>
 C.chk [⟨0, 1, (Addr.mk b4 0 none), .agg, v56⟩] <|
 C.sem (convert ty_string ty_sl_uint8 (.string r62)) .slice fun y63 =>
 C.chk [⟨0, 1, (Addr.mk b4 0 none), .agg, v56⟩] <|
 C.pur (Instr.build ty_impl_Blob #[(0, (.int .u8 (IntKind.wrap .u8 (r58)))), (1, (.slice y63.a y63.n y63.c))]) .agg fun y64 =>
 C.call n_spec_PutBlob [(.agg v56), (.agg y64)] [.agg, .agg, (.int .i64)] fun r65 =>
 C.st 1 (Addr.mk b8 0 none) (.agg r65.1) <|
 C.st 32 (Addr.mk b7 0 none) (.agg r65.2.1) <|
 jt [(.int .i64 r65.2.2)]),
 (C.sem (Instr.buildSlice ty_sl_string 3 #[(0, (.string (⟨#[]⟩ : ByteArray))), (1, (.string (⟨#[120]⟩ : ByteArray))), (2, (.string (⟨#[98, 108, 111, 98]⟩ : ByteArray)))]) .slice fun y61 =>
 C.chk [⟨0, 1, (Addr.mk b4 0 none), .agg, v56⟩] <|
 C.call n_ptr_spec_l00Src_pick [(.pointer (some x0)), (.int .i64 9)] [(.int .i64)] fun r58 =>
 C.chk [⟨0, 1, (Addr.mk b4 0 none), .agg, v56⟩] <|
 C.call n_ptr_spec_l00Src_text [(.pointer (some x0)), (.slice y61.a y61.n y61.c)] [.str] fun r62 =>
 C.chk [⟨0, 1, (Addr.mk b4 0 none), .agg, v56⟩] <|
 C.sem (convert ty_string ty_sl_uint8 (.string r62)) .slice fun y63 =>
 C.chk [⟨0, 1, (Addr.mk b4 0 none), .agg, v56⟩] <|
 C.pur (Instr.build ty_impl_Blob #[(0, (.int .u8 (IntKind.wrap .u8 (r58)))), (1, (.slice y63.a y63.n y63.c))]) .agg fun y64 =>
 C.call n_spec_PutBlob [(.agg v56), (.agg y64)] [.agg, .agg, (.int .i64)] fun r65 =>
 C.st 1 (Addr.mk b8 0 none) (.agg r65.1) <|
 C.st 32 (Addr.mk b7 0 none) (.agg r65.2.1) <|
 jt [(.int .i64 r65.2.2)])]
 ) (
 jt [(.int .i64 0)]
 )
 )
 )
 )
 ) (
 C.join (TL [.bool]) (embL [.bool]) (fun s39 => C.any fun _ =>
 cond s39 (
 C.call n_spec_l05Open [(.pointer (some (Addr.mk b4 0 none)))] [.optr, .bool] fun r85 =>
 C.draw <|
 C.ld .agg 1 (Addr.mk b4 0 none) fun v89 =>
 dpT C r85.1 fun a42 =>
 C.ld .slice 1 (a42.add 1) fun v93 =>
 dpT C r85.1 fun a44 =>
 C.ld .slice 1 (a44.add 1) fun v98 =>
 C.call n_ptr_spec_l00Src_pick [(.pointer (some x0)), (.int .i64 (v98.n : Int))] [(.int .i64)] fun r100 =>
 C.chk [⟨9, 1, (a44.add 1), .slice, v98⟩, ⟨4, 1, (a42.add 1), .slice, v93⟩, ⟨0, 1, (Addr.mk b4 0 none), .agg, v89⟩] <|
 C.ix v93.a v93.n 32 r100 fun p101 =>
 C.ld .agg 32 p101 fun v102 =>
 C.call n_spec_DropBlob [(.agg v89), (.agg v102)] [.agg, (.int .i64)] fun r103 =>
 C.chk [⟨9, 1, (a44.add 1), .slice, v98⟩, ⟨4, 1, (a42.add 1), .slice, v93⟩] <|
 C.st 1 (Addr.mk b4 0 none) (.agg r103.1) <|
 C.ld .agg 1 (Addr.mk b4 0 none) fun v106 =>
 C.st 1 (Addr.mk b2 0 none) (.agg v106) <|
 C.ld .agg 1 (Addr.mk b2 0 none) fun z51 =>
 C.ret (.tuple #[(.agg z51), (.slice s6.1.a s6.1.n s6.1.c)])
 ) (
 C.ld .agg 1 (Addr.mk b4 0 none) fun v106 =>
 C.st 1 (Addr.mk b2 0 none) (.agg v106) <|
 C.ld .agg 1 (Addr.mk b2 0 none) fun z53 =>
 C.ret (.tuple #[(.agg z53), (.slice s6.1.a s6.1.n s6.1.c)])
 )
 ) fun jt =>
 C.call n_ptr_spec_l00Src_one [(.pointer (some x0)), (.int .i64 5)] [.bool] fun r77 =>
 cond r77 (
 C.ld .slice 1 ((Addr.mk b4 0 none).add 0) fun v80 =>
 jt [(.bool (decide ((v80.n : Int) > 0)))]
 ) (
 jt [(.bool false)]
 )
 )
theorem spec_l05Drawn_eq (C : Comb) (x0 : Addr) : fT C Tryz.prog ⟨[(4, [(5, .slice), (6, (.int .i64))])], [(32, [(9, (.int .i64))]), (64, [(83, .bool)])], [11, 13, 17, 23], []⟩ n_spec_l05Drawn [(.pointer (some x0))] = spec_l05Drawn C x0 := by kernel_rfl
theorem spec_l05Drawn_calls {R : Value → World → Prop} {w : World} (x0 : Addr) (h : (spec_l05Drawn (real Tryz.prog R) x0 : World → Prop) w) :
    Calls Tryz.prog n_spec_l05Drawn [(.pointer (some x0))].toArray w fun e w' => ∃ v, e = .returned v ∧ R v w' := fT_sound mixed ⟨[(4, [(5, .slice), (6, (.int .i64))])], [(32, [(9, (.int .i64))]), (64, [(83, .bool)])], [11, 13, 17, 23], []⟩ (by rw [spec_l05Drawn_eq]; exact h)

def ptr_spec_l00Src_one (C : Comb) (x0 : Addr) (x1 : Int) : C.St :=
 C.call n_ptr_spec_l00Src_pick [(.pointer (some x0)), (.int .i64 x1)] [(.int .i64)] fun r7 =>
 C.ret (.bool (r7 == 0))
theorem ptr_spec_l00Src_one_eq (C : Comb) (x0 : Addr) (x1 : Int) : fT C Tryz.prog ⟨[], [], [], []⟩ n_ptr_spec_l00Src_one [(.pointer (some x0)), (.int .i64 x1)] = ptr_spec_l00Src_one C x0 x1 := by kernel_rfl
theorem ptr_spec_l00Src_one_calls {R : Value → World → Prop} {w : World} (x0 : Addr) (x1 : Int) (h : (ptr_spec_l00Src_one (real Tryz.prog R) x0 x1 : World → Prop) w) :
    Calls Tryz.prog n_ptr_spec_l00Src_one [(.pointer (some x0)), (.int .i64 x1)].toArray w fun e w' => ∃ v, e = .returned v ∧ R v w' := fT_sound mixed ⟨[], [], [], []⟩ (by rw [ptr_spec_l00Src_one_eq]; exact h)

def ptr_spec_l05Store_keep (C : Comb) (x0 : Addr) (x1 : Sl) : C.St :=
 C.pur (Instr.build ty_spec_l05Store #[]) .agg fun y7 =>
 C.new ty_spec_l05Store (.agg y7) fun b8 =>
 C.loop (TL [(.int .i64)]) (embL [(.int .i64)]) [(.int .i64 0)] fun s3 ct3 => C.any fun _ =>
 cond (decide (s3 < (x1.n : Int))) (
 C.ix x1.a x1.n 1 s3 fun p17 =>
 C.ld .bool 1 p17 fun v18 =>
 cond v18 (
 C.join (TL []) (embL []) (fun s12 => C.any fun _ =>
 C.draw <|
 C.ld .slice 1 ((Addr.mk b8 0 none).add 1) fun v39 =>
 C.ld .slice 1 (x0.add 1) fun v43 =>
 C.ix v43.a v43.n 32 s3 fun p45 =>
 C.ld .agg 32 p45 fun v46 =>
 C.sem (Instr.buildSlice ty_sl_impl_Key 1 #[(0, (.agg v46))]) .slice fun y47 =>
 C.chk [⟨8, 1, (x0.add 1), .slice, v43⟩, ⟨4, 1, ((Addr.mk b8 0 none).add 1), .slice, v39⟩] <|
 C.sem (Builtin.append_ #[ty_sl_impl_Key, ty_sl_impl_Key] ty_sl_impl_Key #[(.slice v39.a v39.n v39.c), (.slice y47.a y47.n y47.c)]) .slice fun y48 =>
 C.chk [⟨8, 1, (x0.add 1), .slice, v43⟩] <|
 C.st 1 ((Addr.mk b8 0 none).add 1) (.slice y48.a y48.n y48.c) <|
 ct3 [(.int .i64 (IntKind.wrap .i64 (s3 + 1)))]
 ) fun jt =>
 C.draw <|
 C.ld .slice 1 ((Addr.mk b8 0 none).add 0) fun v23 =>
 C.ld .slice 1 (x0.add 0) fun v27 =>
 C.ix v27.a v27.n 2 s3 fun p29 =>
 C.ld .agg 2 p29 fun v30 =>
 C.sem (Instr.buildSlice ty_sl_impl_Blob 1 #[(0, (.agg v30))]) .slice fun y31 =>
 C.chk [⟨8, 1, (x0.add 0), .slice, v27⟩, ⟨4, 1, ((Addr.mk b8 0 none).add 0), .slice, v23⟩] <|
 C.sem (Builtin.append_ #[ty_sl_impl_Blob, ty_sl_impl_Blob] ty_sl_impl_Blob #[(.slice v23.a v23.n v23.c), (.slice y31.a y31.n y31.c)]) .slice fun y32 =>
 C.chk [⟨8, 1, (x0.add 0), .slice, v27⟩] <|
 C.st 1 ((Addr.mk b8 0 none).add 0) (.slice y32.a y32.n y32.c) <|
 jt []
 ) (
 ct3 [(.int .i64 (IntKind.wrap .i64 (s3 + 1)))]
 )
 ) (
 C.ret (.pointer (some (Addr.mk b8 0 none)))
 )
theorem ptr_spec_l05Store_keep_eq (C : Comb) (x0 : Addr) (x1 : Sl) : fT C Tryz.prog ⟨[(3, [(6, (.int .i64))])], [(19, [])], [6, 7], []⟩ n_ptr_spec_l05Store_keep [(.pointer (some x0)), (.slice x1.a x1.n x1.c)] = ptr_spec_l05Store_keep C x0 x1 := by kernel_rfl
theorem ptr_spec_l05Store_keep_calls {R : Value → World → Prop} {w : World} (x0 : Addr) (x1 : Sl) (h : (ptr_spec_l05Store_keep (real Tryz.prog R) x0 x1 : World → Prop) w) :
    Calls Tryz.prog n_ptr_spec_l05Store_keep [(.pointer (some x0)), (.slice x1.a x1.n x1.c)].toArray w fun e w' => ∃ v, e = .returned v ∧ R v w' := fT_sound mixed ⟨[(3, [(6, (.int .i64))])], [(19, [])], [6, 7], []⟩ (by rw [ptr_spec_l05Store_keep_eq]; exact h)

def ptr_spec_l05Store_store (C : Comb) (x0 : Addr) : C.St :=
 C.new ty_impl_Store (.agg (#[(.slice none 0 0)])) fun b2 =>
 C.pur (Instr.build ty_impl_Store #[]) .agg fun y5 =>
 C.new ty_impl_Store (.agg (#[(.slice none 0 0)])) fun b3 =>
 C.st 1 (Addr.mk b3 0 none) (.agg y5) <|
 C.loop (TL [(.int .i64)]) (embL [(.int .i64)]) [(.int .i64 0)] fun s4 ct4 => C.any fun _ =>
 C.ld .slice 1 (x0.add 0) fun v10 =>
 cond (decide (s4 < (v10.n : Int))) (
 C.draw <|
 C.ld .slice 1 ((Addr.mk b3 0 none).add 0) fun v16 =>
 C.ld .slice 1 (x0.add 0) fun v20 =>
 C.ix v20.a v20.n 2 s4 fun p22 =>
 C.ld .agg 2 p22 fun v23 =>
 C.call n_spec_l05Copy [(.agg v23)] [.agg] fun r24 =>
 C.chk [⟨5, 1, (x0.add 0), .slice, v20⟩, ⟨1, 1, ((Addr.mk b3 0 none).add 0), .slice, v16⟩] <|
 C.sem (Instr.buildSlice ty_sl_impl_Blob 1 #[(0, (.agg r24))]) .slice fun y25 =>
 C.chk [⟨5, 1, (x0.add 0), .slice, v20⟩, ⟨1, 1, ((Addr.mk b3 0 none).add 0), .slice, v16⟩] <|
 C.sem (Builtin.append_ #[ty_sl_impl_Blob, ty_sl_impl_Blob] ty_sl_impl_Blob #[(.slice v16.a v16.n v16.c), (.slice y25.a y25.n y25.c)]) .slice fun y26 =>
 C.chk [⟨5, 1, (x0.add 0), .slice, v20⟩] <|
 C.st 1 ((Addr.mk b3 0 none).add 0) (.slice y26.a y26.n y26.c) <|
 ct4 [(.int .i64 (IntKind.wrap .i64 (s4 + 1)))]
 ) (
 C.ld .agg 1 (Addr.mk b3 0 none) fun v28 =>
 C.st 1 (Addr.mk b2 0 none) (.agg v28) <|
 C.ld .agg 1 (Addr.mk b2 0 none) fun z14 =>
 C.ret (.agg z14)
 )
theorem ptr_spec_l05Store_store_eq (C : Comb) (x0 : Addr) : fT C Tryz.prog ⟨[(3, [(4, (.int .i64))])], [], [5], []⟩ n_ptr_spec_l05Store_store [(.pointer (some x0))] = ptr_spec_l05Store_store C x0 := by kernel_rfl
theorem ptr_spec_l05Store_store_calls {R : Value → World → Prop} {w : World} (x0 : Addr) (h : (ptr_spec_l05Store_store (real Tryz.prog R) x0 : World → Prop) w) :
    Calls Tryz.prog n_ptr_spec_l05Store_store [(.pointer (some x0))].toArray w fun e w' => ∃ v, e = .returned v ∧ R v w' := fT_sound mixed ⟨[(3, [(4, (.int .i64))])], [], [5], []⟩ (by rw [ptr_spec_l05Store_store_eq]; exact h)

def spec_l01Hash (C : Comb) (x0 : Int) (x1 : Sl) : C.St :=
 C.new ty_impl_Key (.agg (Array.replicate 32 (.int .u8 0))) fun b4 =>
 C.call n_spec_l01Start [(.int .u8 x0)] [.agg] fun r6 =>
 C.call n_spec_l01End [(.agg r6), (.slice x1.a x1.n x1.c), (.int .i64 (x1.n : Int))] [.agg] fun r10 =>
 C.st 32 (Addr.mk b4 0 none) (.agg r10) <|
 C.ld .agg 32 (Addr.mk b4 0 none) fun z4 =>
 C.ret (.agg z4)
theorem spec_l01Hash_eq (C : Comb) (x0 : Int) (x1 : Sl) : fT C Tryz.prog ⟨[], [], [], []⟩ n_spec_l01Hash [(.int .u8 x0), (.slice x1.a x1.n x1.c)] = spec_l01Hash C x0 x1 := by kernel_rfl
theorem spec_l01Hash_calls {R : Value → World → Prop} {w : World} (x0 : Int) (x1 : Sl) (h : (spec_l01Hash (real Tryz.prog R) x0 x1 : World → Prop) w) :
    Calls Tryz.prog n_spec_l01Hash [(.int .u8 x0), (.slice x1.a x1.n x1.c)].toArray w fun e w' => ∃ v, e = .returned v ∧ R v w' := fT_sound mixed ⟨[], [], [], []⟩ (by rw [spec_l01Hash_eq]; exact h)

def ptr_spec_l05Store_find (C : Comb) (x0 : Addr) (x1 : Array Value) : C.St :=
 C.new ty_impl_Key (.agg x1) fun b3 =>
 C.loop (TL [(.int .i64)]) (embL [(.int .i64)]) [(.int .i64 0)] fun s2 ct2 => C.any fun _ =>
 C.ld .slice 1 (x0.add 1) fun v10 =>
 cond (decide (s2 < (v10.n : Int))) (
 C.draw <|
 C.ld .slice 1 (x0.add 1) fun v18 =>
 C.ix v18.a v18.n 32 s2 fun p20 =>
 C.ld .agg 32 p20 fun v21 =>
 C.ld .agg 32 (Addr.mk b3 0 none) fun v22 =>
 C.pur (eqB .eql ty_impl_Key (.tmp 21) (.tmp 22) (.agg v21) (.agg v22)) .bool fun y23 =>
 cond y23 (
 C.ret (.int .i64 s2)
 ) (
 ct2 [(.int .i64 (IntKind.wrap .i64 (s2 + 1)))]
 )
 ) (
 C.ret (.int .i64 (-1))
 )
theorem ptr_spec_l05Store_find_eq (C : Comb) (x0 : Addr) (x1 : Array Value) : fT C Tryz.prog ⟨[(2, [(5, (.int .i64))])], [], [], []⟩ n_ptr_spec_l05Store_find [(.pointer (some x0)), (.agg x1)] = ptr_spec_l05Store_find C x0 x1 := by kernel_rfl
theorem ptr_spec_l05Store_find_calls {R : Value → World → Prop} {w : World} (x0 : Addr) (x1 : Array Value) (h : (ptr_spec_l05Store_find (real Tryz.prog R) x0 x1 : World → Prop) w) :
    Calls Tryz.prog n_ptr_spec_l05Store_find [(.pointer (some x0)), (.agg x1)].toArray w fun e w' => ∃ v, e = .returned v ∧ R v w' := fT_sound mixed ⟨[(2, [(5, (.int .i64))])], [], [], []⟩ (by rw [ptr_spec_l05Store_find_eq]; exact h)

end Go.Proofs.YtkifkdkjljcclaaGreat
