/- Printed by a program of this claim's author: each Go function as a Lean function over abstract combinators, and the equation that says that T makes it of the loaded code. -/
import Derived.Test.YtkifkdkjljcclaaGreatProg
import Derived.Test.YtkifkdkjljcclaaGreatPkLPR05
namespace Go.Proofs.YtkifkdkjljcclaaGreat
open Go.Sx
def spec_l05Open (C : Comb) (x0 : Addr) : C.St :=
 C.pur (Instr.build ty_spec_l05Store #[]) .agg fun y7 =>
 C.new ty_spec_l05Store (.agg y7) fun b8 =>
 C.ld .slice 1 (x0.add 0) fun v12 =>
 cond (decide ((v12.n : Int) > 128)) (
 C.ret (.tuple #[(.pointer (some (Addr.mk b8 0 none))), (.bool false)])
 ) (
 C.loop (TL [(.int .i64)]) (embL [(.int .i64)]) [(.int .i64 0)] fun s4 ct4 => C.any fun _ =>
 C.ld .slice 1 (x0.add 0) fun v20 =>
 cond (decide (s4 < (v20.n : Int))) (
 C.ld .slice 1 (x0.add 0) fun v28 =>
 C.ix v28.a v28.n 2 s4 fun p30 =>
 C.call n_spec_l05Blob [(.pointer (some p30))] [.bool] fun r31 =>
 cond (!r31) (
 C.ret (.tuple #[(.pointer (some (Addr.mk b8 0 none))), (.bool false)])
 ) (
 C.ld .slice 1 (x0.add 0) fun v37 =>
 C.ix v37.a v37.n 2 s4 fun p39 =>
 C.call n_spec_l05Key [(.pointer (some p39))] [.agg] fun r40 =>
 C.new ty_impl_Key (.agg (Array.replicate 32 (.int .u8 0))) fun b6 =>
 C.st 32 (Addr.mk b6 0 none) (.agg r40) <|
 C.join (TL []) (embL []) (fun s26 => C.any fun _ =>
 C.join (TL []) (embL []) (fun s33 => C.any fun _ =>
 C.draw <|
 C.ld .slice 1 ((Addr.mk b8 0 none).add 1) fun v77 =>
 C.ld .agg 32 (Addr.mk b6 0 none) fun v78 =>
 C.sem (Instr.buildSlice ty_sl_impl_Key 1 #[(0, (.agg v78))]) .slice fun y79 =>
 C.chk [⟨4, 1, ((Addr.mk b8 0 none).add 1), .slice, v77⟩] <|
 C.sem (Builtin.append_ #[ty_sl_impl_Key, ty_sl_impl_Key] ty_sl_impl_Key #[(.slice v77.a v77.n v77.c), (.slice y79.a y79.n y79.c)]) .slice fun y80 =>
 C.st 1 ((Addr.mk b8 0 none).add 1) (.slice y80.a y80.n y80.c) <|
 ct4 [(.int .i64 (IntKind.wrap .i64 (s4 + 1)))]
 ) fun jt =>
 C.draw <|
 C.ld .slice 1 ((Addr.mk b8 0 none).add 0) fun v61 =>
 C.ld .slice 1 (x0.add 0) fun v65 =>
 C.ix v65.a v65.n 2 s4 fun p67 =>
 C.ld .agg 2 p67 fun v68 =>
 C.sem (Instr.buildSlice ty_sl_impl_Blob 1 #[(0, (.agg v68))]) .slice fun y69 =>
 C.chk [⟨8, 1, (x0.add 0), .slice, v65⟩, ⟨4, 1, ((Addr.mk b8 0 none).add 0), .slice, v61⟩] <|
 C.sem (Builtin.append_ #[ty_sl_impl_Blob, ty_sl_impl_Blob] ty_sl_impl_Blob #[(.slice v61.a v61.n v61.c), (.slice y69.a y69.n y69.c)]) .slice fun y70 =>
 C.chk [⟨8, 1, (x0.add 0), .slice, v65⟩] <|
 C.st 1 ((Addr.mk b8 0 none).add 0) (.slice y70.a y70.n y70.c) <|
 jt []
 ) fun jt =>
 C.draw <|
 cond (decide (s4 > 0)) (
 C.all [
 (C.ld .slice 1 ((Addr.mk b8 0 none).add 1) fun v47 =>
 C.ix v47.a v47.n 32 (IntKind.wrap .i64 (s4 - 1)) fun p50 =>
 C.all [
 (C.ld .agg 32 p50 fun v51 =>
 C.ld .agg 32 (Addr.mk b6 0 none) fun v52 =>
 C.call n_spec_l01Compare [(.agg v51), (.agg v52)] [(.int .i64)] fun r53 =>
 cond (decide (r53 ≥ 0)) (
 C.ret (.tuple #[(.pointer (some (Addr.mk b8 0 none))), (.bool false)])
 ) (
 jt []
 )),
 (C.ld .agg 32 (Addr.mk b6 0 none) fun v52 =>
 C.ld .agg 32 p50 fun v51 =>
 C.call n_spec_l01Compare [(.agg v51), (.agg v52)] [(.int .i64)] fun r53 =>
 cond (decide (r53 ≥ 0)) (
 C.ret (.tuple #[(.pointer (some (Addr.mk b8 0 none))), (.bool false)])
 ) (
 jt []
 ))]),
 (C.ld .agg 32 (Addr.mk b6 0 none) fun v52 =>
 C.ld .slice 1 ((Addr.mk b8 0 none).add 1) fun v47 =>
 C.ix v47.a v47.n 32 (IntKind.wrap .i64 (s4 - 1)) fun p50 =>
 C.ld .agg 32 p50 fun v51 =>
 C.call n_spec_l01Compare [(.agg v51), (.agg v52)] [(.int .i64)] fun r53 =>
 cond (decide (r53 ≥ 0)) (
 C.ret (.tuple #[(.pointer (some (Addr.mk b8 0 none))), (.bool false)])
 ) (
 jt []
 ))]
 ) (
 C.all [
 (C.all [
 (jt []),
 (jt [])]),
 (jt [])]
 )
 )
 ) (
 C.ret (.tuple #[(.pointer (some (Addr.mk b8 0 none))), (.bool true)])
 )
 )
theorem spec_l05Open_eq (C : Comb) (x0 : Addr) : fT C Tryz.prog ⟨[(5, [(5, (.int .i64))])], [(165, []), (37, [])], [10, 12, 13], []⟩ n_spec_l05Open [(.pointer (some x0))] = spec_l05Open C x0 := by kernel_rfl
theorem spec_l05Open_calls {R : Value → World → Prop} {w : World} (x0 : Addr) (h : (spec_l05Open (real Tryz.prog R) x0 : World → Prop) w) :
    Calls Tryz.prog n_spec_l05Open [(.pointer (some x0))].toArray w fun e w' => ∃ v, e = .returned v ∧ R v w' := fT_sound mixed ⟨[(5, [(5, (.int .i64))])], [(165, []), (37, [])], [10, 12, 13], []⟩ (by rw [spec_l05Open_eq]; exact h)

def spec_l06Pack (C : Comb) (x0 : Addr) : C.St :=
 C.sem (Instr.buildSlice ty_sl_uint8 4 #[(0, (.int .u8 72)), (1, (.int .u8 84)), (2, (.int .u8 80)), (3, (.int .u8 49))]) .slice fun y14 =>
 C.sem (convert ty_sl_uint8 ty_sl_uint8 (.slice y14.a y14.n y14.c)) .slice fun y15 =>
 C.loop (TL [.slice, (.int .i64)]) (embL [.slice, (.int .i64)]) [(.slice y15.a y15.n y15.c), (.int .i64 0)] fun s3 ct3 => C.any fun _ =>
 C.ld .slice 1 (x0.add 0) fun v20 =>
 cond (decide (s3.2 < (v20.n : Int))) (
 C.ld .slice 1 (x0.add 0) fun v28 =>
 C.ix v28.a v28.n 2 s3.2 fun p30 =>
 C.ld .slice 1 (p30.add 1) fun v34 =>
 C.loop (TL [(.int .i64), .slice, (.int .i64)]) (embL [(.int .i64), .slice, (.int .i64)]) [(.int .i64 (-1)), (.slice v34.a v34.n v34.c), (.int .i64 0)] fun s8 ct8 => C.any fun _ =>
 cond (decide (s8.2.2 < s3.2)) (
 C.draw <|
 C.ld .slice 1 (x0.add 0) fun v43 =>
 C.ix v43.a v43.n 2 s8.2.2 fun p45 =>
 C.ld (.int .u8) 1 (p45.add 0) fun v47 =>
 C.ld (.int .u8) 1 (p30.add 0) fun v51 =>
 cond (v47 != v51) (
 ct8 [(.int .i64 s8.1), (.slice s8.2.1.a s8.2.1.n s8.2.1.c), (.int .i64 (IntKind.wrap .i64 (s8.2.2 + 1)))]
 ) (
 C.join (TL [.slice, .bool]) (embL [.slice, .bool]) (fun s18 => C.any fun _ =>
 cond s18.2 (
 C.ld .slice 1 (p30.add 1) fun v77 =>
 cond (decide ((IntKind.wrap .i64 ((s18.1.n : Int) + 1)) < (v77.n : Int))) (
 cond (decide (s8.1 < 0)) (
 ct8 [(.int .i64 s8.2.2), (.slice s18.1.a s18.1.n s18.1.c), (.int .i64 (IntKind.wrap .i64 (s8.2.2 + 1)))]
 ) (
 cond (decide ((s18.1.n : Int) < (s8.2.1.n : Int))) (
 ct8 [(.int .i64 s8.2.2), (.slice s18.1.a s18.1.n s18.1.c), (.int .i64 (IntKind.wrap .i64 (s8.2.2 + 1)))]
 ) (
 ct8 [(.int .i64 s8.1), (.slice s8.2.1.a s8.2.1.n s8.2.1.c), (.int .i64 (IntKind.wrap .i64 (s8.2.2 + 1)))]
 )
 )
 ) (
 ct8 [(.int .i64 s8.1), (.slice s8.2.1.a s8.2.1.n s8.2.1.c), (.int .i64 (IntKind.wrap .i64 (s8.2.2 + 1)))]
 )
 ) (
 ct8 [(.int .i64 s8.1), (.slice s8.2.1.a s8.2.1.n s8.2.1.c), (.int .i64 (IntKind.wrap .i64 (s8.2.2 + 1)))]
 )
 ) fun jt =>
 C.draw <|
 C.ld .slice 1 (x0.add 0) fun v57 =>
 C.ix v57.a v57.n 2 s8.2.2 fun p59 =>
 C.ld .slice 1 (p59.add 1) fun v61 =>
 C.ld .slice 1 (p30.add 1) fun v65 =>
 C.call n_spec_l06Delta [(.slice v61.a v61.n v61.c), (.slice v65.a v65.n v65.c)] [.slice, .bool] fun r66 =>
 C.chk [⟨3, 1, (x0.add 0), .slice, v57⟩] <|
 jt [(.slice r66.1.a r66.1.n r66.1.c), (.bool r66.2)]
 )
 ) (
 C.join (TL [.slice]) (embL [.slice]) (fun s26 => C.any fun _ =>
 C.sem (Instr.buildSlice ty_sl_uint8 2 #[(0, (.int .u8 (IntKind.wrap .u8 ((Int.tmod (s8.2.1.n : Int) 256))))), (1, (.int .u8 (IntKind.wrap .u8 ((IntKind.wrap .i64 (Int.tdiv (s8.2.1.n : Int) 256))))))]) .slice fun y121 =>
 C.sem (Builtin.append_ #[ty_sl_uint8, ty_sl_uint8] ty_sl_uint8 #[(.slice s26.a s26.n s26.c), (.slice y121.a y121.n y121.c)]) .slice fun y122 =>
 C.sem (Builtin.append_ #[ty_sl_uint8, ty_sl_uint8] ty_sl_uint8 #[(.slice y122.a y122.n y122.c), (.slice s8.2.1.a s8.2.1.n s8.2.1.c)]) .slice fun y125 =>
 C.loop (TL [.slice, (.int .i64)]) (embL [.slice, (.int .i64)]) [(.slice y125.a y125.n y125.c), (.int .i64 0)] fun s30 ct30 => C.any fun _ =>
 cond (decide (s30.2 < 4)) (
 C.ld .slice 1 (x0.add 1) fun v134 =>
 C.ix v134.a v134.n 32 s3.2 fun p137 =>
 C.ix (some p137) 32 1 s30.2 fun p138 =>
 C.ld (.int .u8) 1 p138 fun v139 =>
 C.sem (Instr.buildSlice ty_sl_uint8 1 #[(0, (.int .u8 v139))]) .slice fun y140 =>
 C.sem (Builtin.append_ #[ty_sl_uint8, ty_sl_uint8] ty_sl_uint8 #[(.slice s30.1.a s30.1.n s30.1.c), (.slice y140.a y140.n y140.c)]) .slice fun y141 =>
 ct30 [(.slice y141.a y141.n y141.c), (.int .i64 (IntKind.wrap .i64 (s30.2 + 1)))]
 ) (
 ct3 [(.slice s30.1.a s30.1.n s30.1.c), (.int .i64 (IntKind.wrap .i64 (s3.2 + 1)))]
 )
 ) fun jt =>
 cond (decide (s8.1 < 0)) (
 C.ld (.int .u8) 1 (p30.add 0) fun v100 =>
 C.sem (Instr.buildSlice ty_sl_uint8 2 #[(0, (.int .u8 0)), (1, (.int .u8 v100))]) .slice fun y101 =>
 C.sem (Builtin.append_ #[ty_sl_uint8, ty_sl_uint8] ty_sl_uint8 #[(.slice s3.1.a s3.1.n s3.1.c), (.slice y101.a y101.n y101.c)]) .slice fun y102 =>
 jt [(.slice y102.a y102.n y102.c)]
 ) (
 C.ld (.int .u8) 1 (p30.add 0) fun v107 =>
 C.sem (Instr.buildSlice ty_sl_uint8 3 #[(0, (.int .u8 1)), (1, (.int .u8 v107)), (2, (.int .u8 (IntKind.wrap .u8 (s8.1))))]) .slice fun y110 =>
 C.sem (Builtin.append_ #[ty_sl_uint8, ty_sl_uint8] ty_sl_uint8 #[(.slice s3.1.a s3.1.n s3.1.c), (.slice y110.a y110.n y110.c)]) .slice fun y111 =>
 jt [(.slice y111.a y111.n y111.c)]
 )
 )
 ) (
 C.call n_spec_l01Hash [(.int .u8 8), (.slice s3.1.a s3.1.n s3.1.c)] [.agg] fun r143 =>
 C.new ty_impl_Key (.agg (Array.replicate 32 (.int .u8 0))) fun b12 =>
 C.st 32 (Addr.mk b12 0 none) (.agg r143) <|
 C.ld .slice 1 (x0.add 0) fun v148 =>
 C.sem (Instr.buildSlice ty_sl_uint8 2 #[(0, (.int .u8 2)), (1, (.int .u8 (IntKind.wrap .u8 ((v148.n : Int)))))]) .slice fun y151 =>
 C.sem (Builtin.append_ #[ty_sl_uint8, ty_sl_uint8] ty_sl_uint8 #[(.slice s3.1.a s3.1.n s3.1.c), (.slice y151.a y151.n y151.c)]) .slice fun y152 =>
 C.loop (TL [.slice, (.int .i64)]) (embL [.slice, (.int .i64)]) [(.slice y152.a y152.n y152.c), (.int .i64 0)] fun s42 ct42 => C.any fun _ =>
 cond (decide (s42.2 < 32)) (
 C.ix (some (Addr.mk b12 0 none)) 32 1 s42.2 fun p159 =>
 C.ld (.int .u8) 1 p159 fun v160 =>
 C.sem (Instr.buildSlice ty_sl_uint8 1 #[(0, (.int .u8 v160))]) .slice fun y161 =>
 C.sem (Builtin.append_ #[ty_sl_uint8, ty_sl_uint8] ty_sl_uint8 #[(.slice s42.1.a s42.1.n s42.1.c), (.slice y161.a y161.n y161.c)]) .slice fun y162 =>
 ct42 [(.slice y162.a y162.n y162.c), (.int .i64 (IntKind.wrap .i64 (s42.2 + 1)))]
 ) (
 C.ret (.slice s42.1.a s42.1.n s42.1.c)
 )
 )
theorem spec_l06Pack_eq (C : Comb) (x0 : Addr) : fT C Tryz.prog ⟨[(3, [(3, .slice), (4, (.int .i64))]), (9, [(6, (.int .i64)), (7, .slice), (8, (.int .i64))]), (22, [(3, .slice), (11, (.int .i64))]), (28, [(3, .slice), (13, (.int .i64))])], [(37, [(9, .slice), (10, .bool)]), (285, [(3, .slice)])], [12], []⟩ n_spec_l06Pack [(.pointer (some x0))] = spec_l06Pack C x0 := by kernel_rfl
theorem spec_l06Pack_calls {R : Value → World → Prop} {w : World} (x0 : Addr) (h : (spec_l06Pack (real Tryz.prog R) x0 : World → Prop) w) :
    Calls Tryz.prog n_spec_l06Pack [(.pointer (some x0))].toArray w fun e w' => ∃ v, e = .returned v ∧ R v w' := fT_sound mixed ⟨[(3, [(3, .slice), (4, (.int .i64))]), (9, [(6, (.int .i64)), (7, .slice), (8, (.int .i64))]), (22, [(3, .slice), (11, (.int .i64))]), (28, [(3, .slice), (13, (.int .i64))])], [(37, [(9, .slice), (10, .bool)]), (285, [(3, .slice)])], [12], []⟩ (by rw [spec_l06Pack_eq]; exact h)

def impl_pack (C : Comb) (x0 : Array Value) : C.St :=
 C.new ty_impl_Store (.agg x0) fun b1 =>
 C.sem (Instr.buildSlice ty_sl_uint8 4 #[(0, (.int .u8 72)), (1, (.int .u8 84)), (2, (.int .u8 80)), (3, (.int .u8 49))]) .slice fun y14 =>
 C.sem (convert ty_sl_uint8 ty_sl_uint8 (.slice y14.a y14.n y14.c)) .slice fun y15 =>
 C.ld .slice 1 ((Addr.mk b1 0 none).add 0) fun v17 =>
 C.loop (TL [.slice, (.int .i64)]) (embL [.slice, (.int .i64)]) [(.slice y15.a y15.n y15.c), (.int .i64 0)] fun s5 ct5 => C.any fun _ =>
 cond (decide (s5.2 < (v17.n : Int))) (
 C.ix v17.a v17.n 2 s5.2 fun p22 =>
 C.ld .agg 2 p22 fun v23 =>
 C.new ty_impl_Blob (.agg (#[(.int .u8 0), (.slice none 0 0)])) fun b5 =>
 C.st 2 (Addr.mk b5 0 none) (.agg v23) <|
 C.ld .slice 1 ((Addr.mk b1 0 none).add 0) fun v25 =>
 C.sl v25.a v25.n v25.c 2 none (some s5.2) none fun y27 =>
 C.loop (TL [.slice, (.int .i64), (.int .i64)]) (embL [.slice, (.int .i64), (.int .i64)]) [(.slice none 0 0), (.int .i64 (-1)), (.int .i64 0)] fun s11 ct11 => C.any fun _ =>
 cond (decide (s11.2.2 < (y27.n : Int))) (
 C.ix y27.a y27.n 2 s11.2.2 fun p32 =>
 C.ld .agg 2 p32 fun v33 =>
 C.new ty_impl_Blob (.agg (#[(.int .u8 0), (.slice none 0 0)])) fun b9 =>
 C.st 2 (Addr.mk b9 0 none) (.agg v33) <|
 C.ld (.int .u8) 1 ((Addr.mk b9 0 none).add 0) fun v35 =>
 C.ld (.int .u8) 1 ((Addr.mk b5 0 none).add 0) fun v37 =>
 cond (v35 != v37) (
 ct11 [(.slice s11.1.a s11.1.n s11.1.c), (.int .i64 s11.2.1), (.int .i64 (IntKind.wrap .i64 (s11.2.2 + 1)))]
 ) (
 C.ld .slice 1 ((Addr.mk b9 0 none).add 1) fun v41 =>
 C.ld .slice 1 ((Addr.mk b5 0 none).add 1) fun v43 =>
 C.call n_impl_DeltaOf [(.slice v41.a v41.n v41.c), (.slice v43.a v43.n v43.c)] [.slice, (.int .i64)] fun r44 =>
 cond (r44.2 == 0) (
 cond (decide (s11.2.1 < 0)) (
 ct11 [(.slice r44.1.a r44.1.n r44.1.c), (.int .i64 s11.2.2), (.int .i64 (IntKind.wrap .i64 (s11.2.2 + 1)))]
 ) (
 cond (decide ((r44.1.n : Int) < (s11.1.n : Int))) (
 ct11 [(.slice r44.1.a r44.1.n r44.1.c), (.int .i64 s11.2.2), (.int .i64 (IntKind.wrap .i64 (s11.2.2 + 1)))]
 ) (
 ct11 [(.slice s11.1.a s11.1.n s11.1.c), (.int .i64 s11.2.1), (.int .i64 (IntKind.wrap .i64 (s11.2.2 + 1)))]
 )
 )
 ) (
 ct11 [(.slice s11.1.a s11.1.n s11.1.c), (.int .i64 s11.2.1), (.int .i64 (IntKind.wrap .i64 (s11.2.2 + 1)))]
 )
 )
 ) (
 C.join (TL [.slice, .slice]) (embL [.slice, .slice]) (fun s29 => C.any fun _ =>
 C.ld .agg 2 (Addr.mk b5 0 none) fun v88 =>
 C.call n_impl_Blob_key [(.agg v88)] [.agg] fun r89 =>
 C.new ty_impl_Key (.agg (Array.replicate 32 (.int .u8 0))) fun b12 =>
 C.st 32 (Addr.mk b12 0 none) (.agg r89) <|
 C.draw <|
 C.sl (some (Addr.mk b12 0 none)) 32 32 1 none (some 4) none fun y98 =>
 C.call n_impl_appendLittle [(.slice s29.1.a s29.1.n s29.1.c), (.int .u64 (IntKind.wrap .u64 ((IntKind.wrap .u16 ((s29.2.n : Int)))))), (.int .i64 2)] [.slice] fun r95 =>
 C.sem (Builtin.append_ #[ty_sl_uint8, ty_sl_uint8] ty_sl_uint8 #[(.slice r95.a r95.n r95.c), (.slice s29.2.a s29.2.n s29.2.c)]) .slice fun y97 =>
 C.sem (Builtin.append_ #[ty_sl_uint8, ty_sl_uint8] ty_sl_uint8 #[(.slice y97.a y97.n y97.c), (.slice y98.a y98.n y98.c)]) .slice fun y99 =>
 ct5 [(.slice y99.a y99.n y99.c), (.int .i64 (IntKind.wrap .i64 (s5.2 + 1)))]
 ) fun jt =>
 C.join (TL [.bool]) (embL [.bool]) (fun s21 => C.any fun _ =>
 cond s21 (
 C.ld (.int .u8) 1 ((Addr.mk b5 0 none).add 0) fun v76 =>
 C.sem (Instr.buildSlice ty_sl_uint8 3 #[(0, (.int .u8 1)), (1, (.int .u8 v76)), (2, (.int .u8 (IntKind.wrap .u8 (s11.2.1))))]) .slice fun y79 =>
 C.sem (Builtin.append_ #[ty_sl_uint8, ty_sl_uint8] ty_sl_uint8 #[(.slice s5.1.a s5.1.n s5.1.c), (.slice y79.a y79.n y79.c)]) .slice fun y80 =>
 jt [(.slice y80.a y80.n y80.c), (.slice s11.1.a s11.1.n s11.1.c)]
 ) (
 C.draw <|
 C.ld (.int .u8) 1 ((Addr.mk b5 0 none).add 0) fun v83 =>
 C.ld .slice 1 ((Addr.mk b5 0 none).add 1) fun v87 =>
 C.sem (Instr.buildSlice ty_sl_uint8 2 #[(0, (.int .u8 0)), (1, (.int .u8 v83))]) .slice fun y84 =>
 C.chk [⟨6, 1, ((Addr.mk b5 0 none).add 1), .slice, v87⟩] <|
 C.sem (Builtin.append_ #[ty_sl_uint8, ty_sl_uint8] ty_sl_uint8 #[(.slice s5.1.a s5.1.n s5.1.c), (.slice y84.a y84.n y84.c)]) .slice fun y85 =>
 C.chk [⟨6, 1, ((Addr.mk b5 0 none).add 1), .slice, v87⟩] <|
 jt [(.slice y85.a y85.n y85.c), (.slice v87.a v87.n v87.c)]
 )
 ) fun jt1 =>
 cond (decide (s11.2.1 ≥ 0)) (
 C.ld .slice 1 ((Addr.mk b5 0 none).add 1) fun v70 =>
 jt1 [(.bool (decide ((IntKind.wrap .i64 ((s11.1.n : Int) + 1)) < (v70.n : Int))))]
 ) (
 jt1 [(.bool false)]
 )
 )
 ) (
 C.call n_impl_keyOfPack [(.slice s5.1.a s5.1.n s5.1.c)] [.agg] fun r102 =>
 C.new ty_impl_Key (.agg (Array.replicate 32 (.int .u8 0))) fun b13 =>
 C.st 32 (Addr.mk b13 0 none) (.agg r102) <|
 C.draw <|
 C.ld .slice 1 ((Addr.mk b1 0 none).add 0) fun v105 =>
 C.sl (some (Addr.mk b13 0 none)) 32 32 1 none none none fun y110 =>
 C.sem (Instr.buildSlice ty_sl_uint8 2 #[(0, (.int .u8 2)), (1, (.int .u8 (IntKind.wrap .u8 ((v105.n : Int)))))]) .slice fun y108 =>
 C.chk [⟨2, 1, ((Addr.mk b1 0 none).add 0), .slice, v105⟩] <|
 C.sem (Builtin.append_ #[ty_sl_uint8, ty_sl_uint8] ty_sl_uint8 #[(.slice s5.1.a s5.1.n s5.1.c), (.slice y108.a y108.n y108.c)]) .slice fun y109 =>
 C.chk [⟨2, 1, ((Addr.mk b1 0 none).add 0), .slice, v105⟩] <|
 C.sem (Builtin.append_ #[ty_sl_uint8, ty_sl_uint8] ty_sl_uint8 #[(.slice y109.a y109.n y109.c), (.slice y110.a y110.n y110.c)]) .slice fun y111 =>
 C.chk [⟨2, 1, ((Addr.mk b1 0 none).add 0), .slice, v105⟩] <|
 C.ret (.slice y111.a y111.n y111.c)
 )
theorem impl_pack_eq (C : Comb) (x0 : Array Value) : fT C Tryz.prog ⟨[(3, [(3, .slice), (19, (.int .i64))]), (7, [(6, .slice), (7, (.int .i64)), (29, (.int .i64))])], [(43, [(73, .bool)]), (219, [(3, .slice), (6, .slice)])], [16, 18, 21], []⟩ n_impl_pack [(.agg x0)] = impl_pack C x0 := by kernel_rfl
theorem impl_pack_calls {R : Value → World → Prop} {w : World} (x0 : Array Value) (h : (impl_pack (real Tryz.prog R) x0 : World → Prop) w) :
    Calls Tryz.prog n_impl_pack [(.agg x0)].toArray w fun e w' => ∃ v, e = .returned v ∧ R v w' := fT_sound mixed ⟨[(3, [(3, .slice), (19, (.int .i64))]), (7, [(6, .slice), (7, (.int .i64)), (29, (.int .i64))])], [(43, [(73, .bool)]), (219, [(3, .slice), (6, .slice)])], [16, 18, 21], []⟩ (by rw [impl_pack_eq]; exact h)

def impl_within (C : Comb) (x0 : Int) (x1 : Int) (x2 : Int) : C.St :=
 cond (decide (x0 ≥ x1)) (
 C.ret (.bool (decide (x0 ≤ x2)))
 ) (
 C.ret (.bool false)
 )
theorem impl_within_eq (C : Comb) (x0 : Int) (x1 : Int) (x2 : Int) : fT C Tryz.prog ⟨[], [], [], []⟩ n_impl_within [(.int .i64 x0), (.int .i64 x1), (.int .i64 x2)] = impl_within C x0 x1 x2 := by kernel_rfl
theorem impl_within_calls {R : Value → World → Prop} {w : World} (x0 : Int) (x1 : Int) (x2 : Int) (h : (impl_within (real Tryz.prog R) x0 x1 x2 : World → Prop) w) :
    Calls Tryz.prog n_impl_within [(.int .i64 x0), (.int .i64 x1), (.int .i64 x2)].toArray w fun e w' => ∃ v, e = .returned v ∧ R v w' := fT_sound mixed ⟨[], [], [], []⟩ (by rw [impl_within_eq]; exact h)

def impl_size_byte (C : Comb) (x0 : Sl) : C.St :=
 C.ret (.int .i64 (x0.n : Int))
theorem impl_size_byte_eq (C : Comb) (x0 : Sl) : fT C Tryz.prog ⟨[], [], [], []⟩ n_impl_size_byte [(.slice x0.a x0.n x0.c)] = impl_size_byte C x0 := by kernel_rfl
theorem impl_size_byte_calls {R : Value → World → Prop} {w : World} (x0 : Sl) (h : (impl_size_byte (real Tryz.prog R) x0 : World → Prop) w) :
    Calls Tryz.prog n_impl_size_byte [(.slice x0.a x0.n x0.c)].toArray w fun e w' => ∃ v, e = .returned v ∧ R v w' := fT_sound mixed ⟨[], [], [], []⟩ (by rw [impl_size_byte_eq]; exact h)

def slices_Clone_sl_byte_byte (C : Comb) (x0 : Sl) : C.St :=
 C.pur (eqB .eql ty_sl_uint8 (.tmp 3) (.const (.slice none 0 0)) (.slice x0.a x0.n x0.c) (.slice none 0 0)) .bool fun y4 =>
 cond y4 (
 C.ret (.slice none 0 0)
 ) (
 C.sem (Instr.buildSlice ty_sl_uint8 0 #[]) .slice fun y5 =>
 C.sem (Builtin.append_ #[ty_sl_uint8, ty_sl_uint8] ty_sl_uint8 #[(.slice y5.a y5.n y5.c), (.slice x0.a x0.n x0.c)]) .slice fun y7 =>
 C.ret (.slice y7.a y7.n y7.c)
 )
theorem slices_Clone_sl_byte_byte_eq (C : Comb) (x0 : Sl) : fT C Tryz.prog ⟨[], [], [], []⟩ n_slices_Clone_sl_byte_byte [(.slice x0.a x0.n x0.c)] = slices_Clone_sl_byte_byte C x0 := by kernel_rfl
theorem slices_Clone_sl_byte_byte_calls {R : Value → World → Prop} {w : World} (x0 : Sl) (h : (slices_Clone_sl_byte_byte (real Tryz.prog R) x0 : World → Prop) w) :
    Calls Tryz.prog n_slices_Clone_sl_byte_byte [(.slice x0.a x0.n x0.c)].toArray w fun e w' => ∃ v, e = .returned v ∧ R v w' := fT_sound mixed ⟨[], [], [], []⟩ (by rw [slices_Clone_sl_byte_byte_eq]; exact h)

def impl_keyOfPack (C : Comb) (x0 : Sl) : C.St :=
 C.new ty_impl_Key (.agg (Array.replicate 32 (.int .u8 0))) fun b2 =>
 C.call n_impl_hash [(.int .u8 8), (.slice x0.a x0.n x0.c)] [.agg] fun r4 =>
 C.st 32 (Addr.mk b2 0 none) (.agg r4) <|
 C.ld .agg 32 (Addr.mk b2 0 none) fun z3 =>
 C.ret (.agg z3)
theorem impl_keyOfPack_eq (C : Comb) (x0 : Sl) : fT C Tryz.prog ⟨[], [], [], []⟩ n_impl_keyOfPack [(.slice x0.a x0.n x0.c)] = impl_keyOfPack C x0 := by kernel_rfl
theorem impl_keyOfPack_calls {R : Value → World → Prop} {w : World} (x0 : Sl) (h : (impl_keyOfPack (real Tryz.prog R) x0 : World → Prop) w) :
    Calls Tryz.prog n_impl_keyOfPack [(.slice x0.a x0.n x0.c)].toArray w fun e w' => ∃ v, e = .returned v ∧ R v w' := fT_sound mixed ⟨[], [], [], []⟩ (by rw [impl_keyOfPack_eq]; exact h)

def impl_sorted (C : Comb) (x0 : Sl) : C.St :=
 C.call n_slices_Clone_sl_impl_Key_impl_Key [(.slice x0.a x0.n x0.c)] [.slice] fun r5 =>
 C.call n_slices_SortFunc_sl_impl_Key_impl_Key [(.slice r5.a r5.n r5.c), (.func (.func n_impl_compareKeys) #[] #[])] [] fun r7 =>
 C.call n_slices_Compact_sl_impl_Key_impl_Key [(.slice r5.a r5.n r5.c)] [.slice] fun r9 =>
 C.ret (.slice r9.a r9.n r9.c)
theorem impl_sorted_eq (C : Comb) (x0 : Sl) : fT C Tryz.prog ⟨[], [], [], []⟩ n_impl_sorted [(.slice x0.a x0.n x0.c)] = impl_sorted C x0 := by kernel_rfl
theorem impl_sorted_calls {R : Value → World → Prop} {w : World} (x0 : Sl) (h : (impl_sorted (real Tryz.prog R) x0 : World → Prop) w) :
    Calls Tryz.prog n_impl_sorted [(.slice x0.a x0.n x0.c)].toArray w fun e w' => ∃ v, e = .returned v ∧ R v w' := fT_sound mixed ⟨[], [], [], []⟩ (by rw [impl_sorted_eq]; exact h)

def slices_DeleteFunc_sl_impl_Key_impl_Key (C : Comb) (x0 : Sl) (x1 : Value) : C.St :=
 C.call n_slices_IndexFunc_sl_impl_Key_impl_Key [(.slice x0.a x0.n x0.c), x1] [(.int .i64)] fun r10 =>
 cond (r10 == (-1)) (
 C.ret (.slice x0.a x0.n x0.c)
 ) (
 C.loop (TL [(.int .i64), (.int .i64)]) (embL [(.int .i64), (.int .i64)]) [(.int .i64 r10), (.int .i64 (IntKind.wrap .i64 (r10 + 1)))] fun s2 ct2 => C.any fun _ =>
 cond (decide (s2.2 < (x0.n : Int))) (
 C.ix x0.a x0.n 32 s2.2 fun p24 =>
 C.ld .agg 32 p24 fun v25 =>
 C.new ty_impl_Key (.agg (Array.replicate 32 (.int .u8 0))) fun b7 =>
 C.st 32 (Addr.mk b7 0 none) (.agg v25) <|
 C.ld .agg 32 (Addr.mk b7 0 none) fun v27 =>
 C.callV x1 [(.agg v27)] [.bool] fun r28 =>
 cond (!r28) (
 C.ld .agg 32 (Addr.mk b7 0 none) fun v32 =>
 C.ix x0.a x0.n 32 s2.1 fun p33 =>
 C.st 32 p33 (.agg v32) <|
 ct2 [(.int .i64 (IntKind.wrap .i64 (s2.1 + 1))), (.int .i64 (IntKind.wrap .i64 (s2.2 + 1)))]
 ) (
 ct2 [(.int .i64 s2.1), (.int .i64 (IntKind.wrap .i64 (s2.2 + 1)))]
 )
 ) (
 C.sl x0.a x0.n x0.c 32 (some s2.1) none none fun y38 =>
 C.sem (Builtin.clear_ #[ty_sl_impl_Key] ty_x #[(.slice y38.a y38.n y38.c)]) .val fun yq11 =>
 C.sl x0.a x0.n x0.c 32 none (some s2.1) none fun y41 =>
 C.ret (.slice y41.a y41.n y41.c)
 )
 )
theorem slices_DeleteFunc_sl_impl_Key_impl_Key_eq (C : Comb) (x0 : Sl) (x1 : Value) : fT C Tryz.prog ⟨[(5, [(5, (.int .i64)), (6, (.int .i64))])], [], [], []⟩ n_slices_DeleteFunc_sl_impl_Key_impl_Key [(.slice x0.a x0.n x0.c), x1] = slices_DeleteFunc_sl_impl_Key_impl_Key C x0 x1 := by kernel_rfl
theorem slices_DeleteFunc_sl_impl_Key_impl_Key_calls {R : Value → World → Prop} {w : World} (x0 : Sl) (x1 : Value) (h : (slices_DeleteFunc_sl_impl_Key_impl_Key (real Tryz.prog R) x0 x1 : World → Prop) w) :
    Calls Tryz.prog n_slices_DeleteFunc_sl_impl_Key_impl_Key [(.slice x0.a x0.n x0.c), x1].toArray w fun e w' => ∃ v, e = .returned v ∧ R v w' := fT_sound mixed ⟨[(5, [(5, (.int .i64)), (6, (.int .i64))])], [], [], []⟩ (by rw [slices_DeleteFunc_sl_impl_Key_impl_Key_eq]; exact h)

def slices_Clone_sl_impl_Key_impl_Key (C : Comb) (x0 : Sl) : C.St :=
 C.pur (eqB .eql ty_sl_impl_Key (.tmp 3) (.const (.slice none 0 0)) (.slice x0.a x0.n x0.c) (.slice none 0 0)) .bool fun y4 =>
 cond y4 (
 C.ret (.slice none 0 0)
 ) (
 C.sem (Instr.buildSlice ty_sl_impl_Key 0 #[]) .slice fun y5 =>
 C.sem (Builtin.append_ #[ty_sl_impl_Key, ty_sl_impl_Key] ty_sl_impl_Key #[(.slice y5.a y5.n y5.c), (.slice x0.a x0.n x0.c)]) .slice fun y7 =>
 C.ret (.slice y7.a y7.n y7.c)
 )
theorem slices_Clone_sl_impl_Key_impl_Key_eq (C : Comb) (x0 : Sl) : fT C Tryz.prog ⟨[], [], [], []⟩ n_slices_Clone_sl_impl_Key_impl_Key [(.slice x0.a x0.n x0.c)] = slices_Clone_sl_impl_Key_impl_Key C x0 := by kernel_rfl
theorem slices_Clone_sl_impl_Key_impl_Key_calls {R : Value → World → Prop} {w : World} (x0 : Sl) (h : (slices_Clone_sl_impl_Key_impl_Key (real Tryz.prog R) x0 : World → Prop) w) :
    Calls Tryz.prog n_slices_Clone_sl_impl_Key_impl_Key [(.slice x0.a x0.n x0.c)].toArray w fun e w' => ∃ v, e = .returned v ∧ R v w' := fT_sound mixed ⟨[], [], [], []⟩ (by rw [slices_Clone_sl_impl_Key_impl_Key_eq]; exact h)

def slices_Contains_sl_impl_Key_impl_Key (C : Comb) (x0 : Sl) (x1 : Array Value) : C.St :=
 C.new ty_impl_Key (.agg x1) fun b3 =>
 C.ld .agg 32 (Addr.mk b3 0 none) fun v6 =>
 C.call n_slices_Index_sl_impl_Key_impl_Key [(.slice x0.a x0.n x0.c), (.agg v6)] [(.int .i64)] fun r7 =>
 C.ret (.bool (decide (r7 ≥ 0)))
theorem slices_Contains_sl_impl_Key_impl_Key_eq (C : Comb) (x0 : Sl) (x1 : Array Value) : fT C Tryz.prog ⟨[], [], [], []⟩ n_slices_Contains_sl_impl_Key_impl_Key [(.slice x0.a x0.n x0.c), (.agg x1)] = slices_Contains_sl_impl_Key_impl_Key C x0 x1 := by kernel_rfl
theorem slices_Contains_sl_impl_Key_impl_Key_calls {R : Value → World → Prop} {w : World} (x0 : Sl) (x1 : Array Value) (h : (slices_Contains_sl_impl_Key_impl_Key (real Tryz.prog R) x0 x1 : World → Prop) w) :
    Calls Tryz.prog n_slices_Contains_sl_impl_Key_impl_Key [(.slice x0.a x0.n x0.c), (.agg x1)].toArray w fun e w' => ∃ v, e = .returned v ∧ R v w' := fT_sound mixed ⟨[], [], [], []⟩ (by rw [slices_Contains_sl_impl_Key_impl_Key_eq]; exact h)

def impl_compareKeys (C : Comb) (x0 : Array Value) (x1 : Array Value) : C.St :=
 C.new ty_impl_Key (.agg x0) fun b2 =>
 C.new ty_impl_Key (.agg x1) fun b3 =>
 C.draw <|
 C.sl (some (Addr.mk b2 0 none)) 32 32 1 none none none fun y5 =>
 C.sl (some (Addr.mk b3 0 none)) 32 32 1 none none none fun y6 =>
 C.callQ n_slices_Compare_sl_byte_byte [(.slice y5.a y5.n y5.c), (.slice y6.a y6.n y6.c)] [(.int .i64)] fun r7 =>
 C.ret (.int .i64 r7)
theorem impl_compareKeys_eq (C : Comb) (x0 : Array Value) (x1 : Array Value) : fT C Tryz.prog ⟨[], [], [], []⟩ n_impl_compareKeys [(.agg x0), (.agg x1)] = impl_compareKeys C x0 x1 := by kernel_rfl
theorem impl_compareKeys_calls {R : Value → World → Prop} {w : World} (x0 : Array Value) (x1 : Array Value) (h : (impl_compareKeys (real Tryz.prog R) x0 x1 : World → Prop) w) :
    Calls Tryz.prog n_impl_compareKeys [(.agg x0), (.agg x1)].toArray w fun e w' => ∃ v, e = .returned v ∧ R v w' := fT_sound mixed ⟨[], [], [], []⟩ (by rw [impl_compareKeys_eq]; exact h)

def spec_l01Compare (C : Comb) (x0 : Array Value) (x1 : Array Value) : C.St :=
 C.new ty_impl_Key (.agg x0) fun b2 =>
 C.new ty_impl_Key (.agg x1) fun b3 =>
 C.loop (TL [(.int .i64)]) (embL [(.int .i64)]) [(.int .i64 0)] fun s3 ct3 => C.any fun _ =>
 cond (decide (s3 < 32)) (
 C.draw <|
 C.ix (some (Addr.mk b2 0 none)) 32 1 s3 fun p11 =>
 C.ld (.int .u8) 1 p11 fun v12 =>
 C.ix (some (Addr.mk b3 0 none)) 32 1 s3 fun p14 =>
 C.ld (.int .u8) 1 p14 fun v15 =>
 cond (v12 != v15) (
 C.draw <|
 C.ix (some (Addr.mk b2 0 none)) 32 1 s3 fun p18 =>
 C.ld (.int .u8) 1 p18 fun v19 =>
 C.ix (some (Addr.mk b3 0 none)) 32 1 s3 fun p21 =>
 C.ld (.int .u8) 1 p21 fun v22 =>
 cond (decide (v19 < v22)) (
 C.ret (.int .i64 (-1))
 ) (
 C.ret (.int .i64 1)
 )
 ) (
 ct3 [(.int .i64 (IntKind.wrap .i64 (s3 + 1)))]
 )
 ) (
 C.ret (.int .i64 0)
 )
theorem spec_l01Compare_eq (C : Comb) (x0 : Array Value) (x1 : Array Value) : fT C Tryz.prog ⟨[(2, [(5, (.int .i64))])], [], [], []⟩ n_spec_l01Compare [(.agg x0), (.agg x1)] = spec_l01Compare C x0 x1 := by kernel_rfl
theorem spec_l01Compare_calls {R : Value → World → Prop} {w : World} (x0 : Array Value) (x1 : Array Value) (h : (spec_l01Compare (real Tryz.prog R) x0 x1 : World → Prop) w) :
    Calls Tryz.prog n_spec_l01Compare [(.agg x0), (.agg x1)].toArray w fun e w' => ∃ v, e = .returned v ∧ R v w' := fT_sound mixed ⟨[(2, [(5, (.int .i64))])], [], [], []⟩ (by rw [spec_l01Compare_eq]; exact h)

def spec_l01Has (C : Comb) (x0 : Sl) (x1 : Array Value) : C.St :=
 C.new ty_impl_Key (.agg x1) fun b3 =>
 C.loop (TL [(.int .i64)]) (embL [(.int .i64)]) [(.int .i64 0)] fun s2 ct2 => C.any fun _ =>
 cond (decide (s2 < (x0.n : Int))) (
 C.draw <|
 C.ix x0.a x0.n 32 s2 fun p14 =>
 C.ld .agg 32 p14 fun v15 =>
 C.ld .agg 32 (Addr.mk b3 0 none) fun v16 =>
 C.pur (eqB .eql ty_impl_Key (.tmp 15) (.tmp 16) (.agg v15) (.agg v16)) .bool fun y17 =>
 cond y17 (
 C.ret (.bool true)
 ) (
 ct2 [(.int .i64 (IntKind.wrap .i64 (s2 + 1)))]
 )
 ) (
 C.ret (.bool false)
 )
theorem spec_l01Has_eq (C : Comb) (x0 : Sl) (x1 : Array Value) : fT C Tryz.prog ⟨[(2, [(5, (.int .i64))])], [], [], []⟩ n_spec_l01Has [(.slice x0.a x0.n x0.c), (.agg x1)] = spec_l01Has C x0 x1 := by kernel_rfl
theorem spec_l01Has_calls {R : Value → World → Prop} {w : World} (x0 : Sl) (x1 : Array Value) (h : (spec_l01Has (real Tryz.prog R) x0 x1 : World → Prop) w) :
    Calls Tryz.prog n_spec_l01Has [(.slice x0.a x0.n x0.c), (.agg x1)].toArray w fun e w' => ∃ v, e = .returned v ∧ R v w' := fT_sound mixed ⟨[(2, [(5, (.int .i64))])], [], [], []⟩ (by rw [spec_l01Has_eq]; exact h)

def ptr_impl_shop_kept (C : Comb) (x0 : Addr) (x1 : Value) : C.St :=
 C.new ty_impl_Store (.agg (#[(.slice none 0 0)])) fun b4 =>
 C.pur (Instr.build ty_impl_shop #[]) .agg fun y8 =>
 C.new ty_impl_shop (.agg y8) fun b9 =>
 C.ld .slice 1 (x0.add 0) fun v13 =>
 C.loop (TL [(.int .i64)]) (embL [(.int .i64)]) [(.int .i64 0)] fun s5 ct5 => C.any fun _ =>
 cond (decide (s5 < (v13.n : Int))) (
 C.ix v13.a v13.n 32 s5 fun p18 =>
 C.ld .agg 32 p18 fun v19 =>
 C.new ty_impl_Key (.agg (Array.replicate 32 (.int .u8 0))) fun b7 =>
 C.st 32 (Addr.mk b7 0 none) (.agg v19) <|
 C.ld .agg 32 (Addr.mk b7 0 none) fun v21 =>
 C.callV x1 [(.agg v21)] [.bool] fun r22 =>
 cond r22 (
 C.draw <|
 C.ld .slice 1 ((Addr.mk b9 0 none).add 1) fun v27 =>
 C.ld .slice 1 (x0.add 1) fun v31 =>
 C.ix v31.a v31.n 2 s5 fun p33 =>
 C.ld .agg 2 p33 fun v34 =>
 C.sem (Instr.buildSlice ty_sl_impl_Blob 1 #[(0, (.agg v34))]) .slice fun y35 =>
 C.chk [⟨8, 1, (x0.add 1), .slice, v31⟩, ⟨4, 1, ((Addr.mk b9 0 none).add 1), .slice, v27⟩] <|
 C.sem (Builtin.append_ #[ty_sl_impl_Blob, ty_sl_impl_Blob] ty_sl_impl_Blob #[(.slice v27.a v27.n v27.c), (.slice y35.a y35.n y35.c)]) .slice fun y36 =>
 C.chk [⟨8, 1, (x0.add 1), .slice, v31⟩] <|
 C.st 1 ((Addr.mk b9 0 none).add 1) (.slice y36.a y36.n y36.c) <|
 ct5 [(.int .i64 (IntKind.wrap .i64 (s5 + 1)))]
 ) (
 ct5 [(.int .i64 (IntKind.wrap .i64 (s5 + 1)))]
 )
 ) (
 C.call n_ptr_impl_shop_store [(.pointer (some (Addr.mk b9 0 none)))] [.agg] fun r41 =>
 C.st 1 (Addr.mk b4 0 none) (.agg r41) <|
 C.ld .agg 1 (Addr.mk b4 0 none) fun z18 =>
 C.ret (.agg z18)
 )
theorem ptr_impl_shop_kept_eq (C : Comb) (x0 : Addr) (x1 : Value) : fT C Tryz.prog ⟨[(3, [(15, (.int .i64))])], [], [6], []⟩ n_ptr_impl_shop_kept [(.pointer (some x0)), x1] = ptr_impl_shop_kept C x0 x1 := by kernel_rfl
theorem ptr_impl_shop_kept_calls {R : Value → World → Prop} {w : World} (x0 : Addr) (x1 : Value) (h : (ptr_impl_shop_kept (real Tryz.prog R) x0 x1 : World → Prop) w) :
    Calls Tryz.prog n_ptr_impl_shop_kept [(.pointer (some x0)), x1].toArray w fun e w' => ∃ v, e = .returned v ∧ R v w' := fT_sound mixed ⟨[(3, [(15, (.int .i64))])], [], [6], []⟩ (by rw [ptr_impl_shop_kept_eq]; exact h)

def ptr_spec_l05Store_keep (C : Comb) (x0 : Addr) (x1 : Sl) : C.St :=
 C.pur (Instr.build ty_spec_l05Store #[]) .agg fun y7 =>
 C.new ty_spec_l05Store (.agg y7) fun b8 =>
 C.loop (TL [(.int .i64)]) (embL [(.int .i64)]) [(.int .i64 0)] fun s3 ct3 => C.any fun _ =>
 cond (decide (s3 < (x1.n : Int))) (
 C.ix x1.a x1.n 1 s3 fun p17 =>
 C.ld .bool 1 p17 fun v18 =>
 cond v18 (
 C.join (TL []) (embL []) (fun s12 => C.any fun _ =>
 C.draw <|
 C.ld .slice 1 ((Addr.mk b8 0 none).add 1) fun v39 =>
 C.ld .slice 1 (x0.add 1) fun v43 =>
 C.ix v43.a v43.n 32 s3 fun p45 =>
 C.ld .agg 32 p45 fun v46 =>
 C.sem (Instr.buildSlice ty_sl_impl_Key 1 #[(0, (.agg v46))]) .slice fun y47 =>
 C.chk [⟨8, 1, (x0.add 1), .slice, v43⟩, ⟨4, 1, ((Addr.mk b8 0 none).add 1), .slice, v39⟩] <|
 C.sem (Builtin.append_ #[ty_sl_impl_Key, ty_sl_impl_Key] ty_sl_impl_Key #[(.slice v39.a v39.n v39.c), (.slice y47.a y47.n y47.c)]) .slice fun y48 =>
 C.chk [⟨8, 1, (x0.add 1), .slice, v43⟩] <|
 C.st 1 ((Addr.mk b8 0 none).add 1) (.slice y48.a y48.n y48.c) <|
 ct3 [(.int .i64 (IntKind.wrap .i64 (s3 + 1)))]
 ) fun jt =>
 C.draw <|
 C.ld .slice 1 ((Addr.mk b8 0 none).add 0) fun v23 =>
 C.ld .slice 1 (x0.add 0) fun v27 =>
 C.ix v27.a v27.n 2 s3 fun p29 =>
 C.ld .agg 2 p29 fun v30 =>
 C.sem (Instr.buildSlice ty_sl_impl_Blob 1 #[(0, (.agg v30))]) .slice fun y31 =>
 C.chk [⟨8, 1, (x0.add 0), .slice, v27⟩, ⟨4, 1, ((Addr.mk b8 0 none).add 0), .slice, v23⟩] <|
 C.sem (Builtin.append_ #[ty_sl_impl_Blob, ty_sl_impl_Blob] ty_sl_impl_Blob #[(.slice v23.a v23.n v23.c), (.slice y31.a y31.n y31.c)]) .slice fun y32 =>
 C.chk [⟨8, 1, (x0.add 0), .slice, v27⟩] <|
 C.st 1 ((Addr.mk b8 0 none).add 0) (.slice y32.a y32.n y32.c) <|
 jt []
 ) (
 ct3 [(.int .i64 (IntKind.wrap .i64 (s3 + 1)))]
 )
 ) (
 C.ret (.pointer (some (Addr.mk b8 0 none)))
 )
theorem ptr_spec_l05Store_keep_eq (C : Comb) (x0 : Addr) (x1 : Sl) : fT C Tryz.prog ⟨[(3, [(6, (.int .i64))])], [(19, [])], [6, 7], []⟩ n_ptr_spec_l05Store_keep [(.pointer (some x0)), (.slice x1.a x1.n x1.c)] = ptr_spec_l05Store_keep C x0 x1 := by kernel_rfl
theorem ptr_spec_l05Store_keep_calls {R : Value → World → Prop} {w : World} (x0 : Addr) (x1 : Sl) (h : (ptr_spec_l05Store_keep (real Tryz.prog R) x0 x1 : World → Prop) w) :
    Calls Tryz.prog n_ptr_spec_l05Store_keep [(.pointer (some x0)), (.slice x1.a x1.n x1.c)].toArray w fun e w' => ∃ v, e = .returned v ∧ R v w' := fT_sound mixed ⟨[(3, [(6, (.int .i64))])], [(19, [])], [6, 7], []⟩ (by rw [ptr_spec_l05Store_keep_eq]; exact h)

def impl_reachCode (C : Comb) (x0 : Array Value) (x1 : Sl) : C.St :=
 C.new ty_impl_Store (.agg x0) fun b2 =>
 C.ld .agg 1 (Addr.mk b2 0 none) fun v9 =>
 C.call n_impl_newShop [(.agg v9)] [.optr, .bool] fun r10 =>
 cond (!r10.2) (
 C.ret (.tuple #[(.pointer none), (.int .i64 1)])
 ) (
 C.call n_slices_ContainsFunc_sl_sl_impl_Key_sl_impl_Key [(.slice x1.a x1.n x1.c), (.func (.func n_impl_reachCode_1) #[] #[])] [.bool] fun r18 =>
 cond r18 (
 C.ret (.tuple #[(.pointer none), (.int .i64 3)])
 ) (
 C.ret (.tuple #[(.pointer r10.1), (.int .i64 0)])
 )
 )
theorem impl_reachCode_eq (C : Comb) (x0 : Array Value) (x1 : Sl) : fT C Tryz.prog ⟨[], [], [], []⟩ n_impl_reachCode [(.agg x0), (.slice x1.a x1.n x1.c)] = impl_reachCode C x0 x1 := by kernel_rfl
theorem impl_reachCode_calls {R : Value → World → Prop} {w : World} (x0 : Array Value) (x1 : Sl) (h : (impl_reachCode (real Tryz.prog R) x0 x1 : World → Prop) w) :
    Calls Tryz.prog n_impl_reachCode [(.agg x0), (.slice x1.a x1.n x1.c)].toArray w fun e w' => ∃ v, e = .returned v ∧ R v w' := fT_sound mixed ⟨[], [], [], []⟩ (by rw [impl_reachCode_eq]; exact h)

def ptr_impl_shop_reached (C : Comb) (x0 : Addr) (x1 : Sl) (x2 : Bool) : C.St :=
 C.new ty_ptr_impl_shop (.pointer (some x0)) fun b3 =>
 C.new ty_bool (.bool x2) fun b5 =>
 C.ld .ptr 1 (Addr.mk b3 0 none) fun v7 =>
 C.call n_ptr_impl_shop_reach [(.pointer (some v7)), (.slice x1.a x1.n x1.c)] [.slice] fun r9 =>
 C.call n_slices_DeleteFunc_sl_impl_Key_impl_Key [(.slice r9.a r9.n r9.c), (.func (.func n_ptr_impl_shop_reached_1) #[] #[(.pointer (some (Addr.mk b3 0 none))), (.pointer (some (Addr.mk b5 0 none)))])] [.slice] fun r11 =>
 C.call n_impl_sorted [(.slice r11.a r11.n r11.c)] [.slice] fun r12 =>
 C.ret (.slice r12.a r12.n r12.c)
theorem ptr_impl_shop_reached_eq (C : Comb) (x0 : Addr) (x1 : Sl) (x2 : Bool) : fT C Tryz.prog ⟨[], [], [], []⟩ n_ptr_impl_shop_reached [(.pointer (some x0)), (.slice x1.a x1.n x1.c), (.bool x2)] = ptr_impl_shop_reached C x0 x1 x2 := by kernel_rfl
theorem ptr_impl_shop_reached_calls {R : Value → World → Prop} {w : World} (x0 : Addr) (x1 : Sl) (x2 : Bool) (h : (ptr_impl_shop_reached (real Tryz.prog R) x0 x1 x2 : World → Prop) w) :
    Calls Tryz.prog n_ptr_impl_shop_reached [(.pointer (some x0)), (.slice x1.a x1.n x1.c), (.bool x2)].toArray w fun e w' => ∃ v, e = .returned v ∧ R v w' := fT_sound mixed ⟨[], [], [], []⟩ (by rw [ptr_impl_shop_reached_eq]; exact h)

def impl_newShop (C : Comb) (x0 : Array Value) : C.St :=
 C.new ty_impl_Store (.agg x0) fun b1 =>
 C.ld .agg 1 (Addr.mk b1 0 none) fun v4 =>
 C.call n_impl_ValidStore [(.agg v4)] [.bool] fun r5 =>
 cond (!r5) (
 C.ret (.tuple #[(.pointer none), (.bool false)])
 ) (
 C.draw <|
 C.ld .agg 1 (Addr.mk b1 0 none) fun v7 =>
 C.ld .slice 1 ((Addr.mk b1 0 none).add 0) fun v10 =>
 C.call n_impl_Store_keys [(.agg v7)] [.slice] fun r8 =>
 C.chk [⟨3, 1, ((Addr.mk b1 0 none).add 0), .slice, v10⟩] <|
 C.call n_slices_Clone_sl_impl_Blob_impl_Blob [(.slice v10.a v10.n v10.c)] [.slice] fun r11 =>
 C.pur (Instr.build ty_impl_shop #[(0, (.slice r8.a r8.n r8.c)), (1, (.slice r11.a r11.n r11.c))]) .agg fun y12 =>
 C.new ty_impl_shop (.agg y12) fun b13 =>
 C.ret (.tuple #[(.pointer (some (Addr.mk b13 0 none))), (.bool true)])
 )
theorem impl_newShop_eq (C : Comb) (x0 : Array Value) : fT C Tryz.prog ⟨[], [], [3], []⟩ n_impl_newShop [(.agg x0)] = impl_newShop C x0 := by kernel_rfl
theorem impl_newShop_calls {R : Value → World → Prop} {w : World} (x0 : Array Value) (h : (impl_newShop (real Tryz.prog R) x0 : World → Prop) w) :
    Calls Tryz.prog n_impl_newShop [(.agg x0)].toArray w fun e w' => ∃ v, e = .returned v ∧ R v w' := fT_sound mixed ⟨[], [], [3], []⟩ (by rw [impl_newShop_eq]; exact h)

def spec_l05Asked (C : Comb) (x0 : Addr) (x1 : Sl) : C.St :=
 C.call n_spec_l05Open [(.pointer (some x0))] [.optr, .bool] fun r10 =>
 cond (!r10.2) (
 C.ret (.tuple #[(.pointer r10.1), (.int .i64 1)])
 ) (
 cond (decide ((x1.n : Int) > 256)) (
 C.ret (.tuple #[(.pointer r10.1), (.int .i64 3)])
 ) (
 C.ret (.tuple #[(.pointer r10.1), (.int .i64 0)])
 )
 )
theorem spec_l05Asked_eq (C : Comb) (x0 : Addr) (x1 : Sl) : fT C Tryz.prog ⟨[], [], [], []⟩ n_spec_l05Asked [(.pointer (some x0)), (.slice x1.a x1.n x1.c)] = spec_l05Asked C x0 x1 := by kernel_rfl
theorem spec_l05Asked_calls {R : Value → World → Prop} {w : World} (x0 : Addr) (x1 : Sl) (h : (spec_l05Asked (real Tryz.prog R) x0 x1 : World → Prop) w) :
    Calls Tryz.prog n_spec_l05Asked [(.pointer (some x0)), (.slice x1.a x1.n x1.c)].toArray w fun e w' => ∃ v, e = .returned v ∧ R v w' := fT_sound mixed ⟨[], [], [], []⟩ (by rw [spec_l05Asked_eq]; exact h)

def ptr_spec_l05Store_reach (C : Comb) (x0 : Addr) (x1 : Sl) : C.St :=
 C.ld .slice 1 (x0.add 1) fun v14 =>
 C.sem (Instr.makeSlice ty_sl_bool (.int .i64 (v14.n : Int)) (.int .i64 (v14.n : Int))) .slice fun y16 =>
 C.sem (Instr.buildSlice ty_sl_impl_Key 0 #[]) .slice fun y17 =>
 C.sem (Instr.buildSlice ty_sl_impl_Key 0 #[]) .slice fun y18 =>
 C.sem (Builtin.append_ #[ty_sl_impl_Key, ty_sl_impl_Key] ty_sl_impl_Key #[(.slice y18.a y18.n y18.c), (.slice x1.a x1.n x1.c)]) .slice fun y20 =>
 C.loop (TL [.slice, .slice, (.int .i64)]) (embL [.slice, .slice, (.int .i64)]) [(.slice y17.a y17.n y17.c), (.slice y20.a y20.n y20.c), (.int .i64 0)] fun s6 ct6 => C.any fun _ =>
 cond (decide (s6.2.2 < (s6.2.1.n : Int))) (
 C.ix s6.2.1.a s6.2.1.n 32 s6.2.2 fun p30 =>
 C.ld .agg 32 p30 fun v31 =>
 C.call n_ptr_spec_l05Store_find [(.pointer (some x0)), (.agg v31)] [(.int .i64)] fun r32 =>
 cond (decide (r32 < 0)) (
 C.ix s6.2.1.a s6.2.1.n 32 s6.2.2 fun p38 =>
 C.ld .agg 32 p38 fun v39 =>
 C.call n_spec_l01Has [(.slice s6.1.a s6.1.n s6.1.c), (.agg v39)] [.bool] fun r40 =>
 cond (!r40) (
 C.ix s6.2.1.a s6.2.1.n 32 s6.2.2 fun p45 =>
 C.ld .agg 32 p45 fun v46 =>
 C.sem (Instr.buildSlice ty_sl_impl_Key 1 #[(0, (.agg v46))]) .slice fun y47 =>
 C.sem (Builtin.append_ #[ty_sl_impl_Key, ty_sl_impl_Key] ty_sl_impl_Key #[(.slice s6.1.a s6.1.n s6.1.c), (.slice y47.a y47.n y47.c)]) .slice fun y48 =>
 ct6 [(.slice y48.a y48.n y48.c), (.slice s6.2.1.a s6.2.1.n s6.2.1.c), (.int .i64 (IntKind.wrap .i64 (s6.2.2 + 1)))]
 ) (
 ct6 [(.slice s6.1.a s6.1.n s6.1.c), (.slice s6.2.1.a s6.2.1.n s6.2.1.c), (.int .i64 (IntKind.wrap .i64 (s6.2.2 + 1)))]
 )
 ) (
 C.ix y16.a y16.n 1 r32 fun p51 =>
 C.ld .bool 1 p51 fun v52 =>
 cond (!v52) (
 C.ix y16.a y16.n 1 r32 fun p56 =>
 C.st 1 p56 (.bool true) <|
 C.ld .slice 1 (x0.add 0) fun v61 =>
 C.ix v61.a v61.n 2 r32 fun p63 =>
 C.call n_spec_l05Links [(.pointer (some p63))] [.slice] fun r64 =>
 C.sem (Builtin.append_ #[ty_sl_impl_Key, ty_sl_impl_Key] ty_sl_impl_Key #[(.slice s6.2.1.a s6.2.1.n s6.2.1.c), (.slice r64.a r64.n r64.c)]) .slice fun y65 =>
 ct6 [(.slice s6.1.a s6.1.n s6.1.c), (.slice y65.a y65.n y65.c), (.int .i64 (IntKind.wrap .i64 (s6.2.2 + 1)))]
 ) (
 ct6 [(.slice s6.1.a s6.1.n s6.1.c), (.slice s6.2.1.a s6.2.1.n s6.2.1.c), (.int .i64 (IntKind.wrap .i64 (s6.2.2 + 1)))]
 )
 )
 ) (
 C.ret (.tuple #[(.slice y16.a y16.n y16.c), (.slice s6.1.a s6.1.n s6.1.c)])
 )
theorem ptr_spec_l05Store_reach_eq (C : Comb) (x0 : Addr) (x1 : Sl) : fT C Tryz.prog ⟨[(5, [(7, .slice), (8, .slice), (9, (.int .i64))])], [], [], []⟩ n_ptr_spec_l05Store_reach [(.pointer (some x0)), (.slice x1.a x1.n x1.c)] = ptr_spec_l05Store_reach C x0 x1 := by kernel_rfl
theorem ptr_spec_l05Store_reach_calls {R : Value → World → Prop} {w : World} (x0 : Addr) (x1 : Sl) (h : (ptr_spec_l05Store_reach (real Tryz.prog R) x0 x1 : World → Prop) w) :
    Calls Tryz.prog n_ptr_spec_l05Store_reach [(.pointer (some x0)), (.slice x1.a x1.n x1.c)].toArray w fun e w' => ∃ v, e = .returned v ∧ R v w' := fT_sound mixed ⟨[(5, [(7, .slice), (8, .slice), (9, (.int .i64))])], [], [], []⟩ (by rw [ptr_spec_l05Store_reach_eq]; exact h)

def impl_keysIn (C : Comb) (x0 : Sl) : C.St :=
 C.sem (Instr.buildSlice ty_sl_impl_Key 0 #[]) .slice fun y4 =>
 C.loop (TL [.slice, .slice]) (embL [.slice, .slice]) [(.slice x0.a x0.n x0.c), (.slice y4.a y4.n y4.c)] fun s2 ct2 => C.any fun _ =>
 cond (decide ((s2.1.n : Int) ≥ 32)) (
 C.pur (Instr.arrayAt ty_impl_Key (.slice s2.1.a s2.1.n s2.1.c)) .ptr fun y10 =>
 C.ld .agg 32 y10 fun v11 =>
 C.sem (Instr.buildSlice ty_sl_impl_Key 1 #[(0, (.agg v11))]) .slice fun y12 =>
 C.sem (Builtin.append_ #[ty_sl_impl_Key, ty_sl_impl_Key] ty_sl_impl_Key #[(.slice s2.2.a s2.2.n s2.2.c), (.slice y12.a y12.n y12.c)]) .slice fun y13 =>
 C.sl s2.1.a s2.1.n s2.1.c 1 (some 32) none none fun y15 =>
 ct2 [(.slice y15.a y15.n y15.c), (.slice y13.a y13.n y13.c)]
 ) (
 C.ret (.slice s2.2.a s2.2.n s2.2.c)
 )
theorem impl_keysIn_eq (C : Comb) (x0 : Sl) : fT C Tryz.prog ⟨[(2, [(0, .slice), (3, .slice)])], [], [], []⟩ n_impl_keysIn [(.slice x0.a x0.n x0.c)] = impl_keysIn C x0 := by kernel_rfl
theorem impl_keysIn_calls {R : Value → World → Prop} {w : World} (x0 : Sl) (h : (impl_keysIn (real Tryz.prog R) x0 : World → Prop) w) :
    Calls Tryz.prog n_impl_keysIn [(.slice x0.a x0.n x0.c)].toArray w fun e w' => ∃ v, e = .returned v ∧ R v w' := fT_sound mixed ⟨[(2, [(0, .slice), (3, .slice)])], [], [], []⟩ (by rw [impl_keysIn_eq]; exact h)

def spec_l01Hash (C : Comb) (x0 : Int) (x1 : Sl) : C.St :=
 C.new ty_impl_Key (.agg (Array.replicate 32 (.int .u8 0))) fun b4 =>
 C.call n_spec_l01Start [(.int .u8 x0)] [.agg] fun r6 =>
 C.call n_spec_l01End [(.agg r6), (.slice x1.a x1.n x1.c), (.int .i64 (x1.n : Int))] [.agg] fun r10 =>
 C.st 32 (Addr.mk b4 0 none) (.agg r10) <|
 C.ld .agg 32 (Addr.mk b4 0 none) fun z4 =>
 C.ret (.agg z4)
theorem spec_l01Hash_eq (C : Comb) (x0 : Int) (x1 : Sl) : fT C Tryz.prog ⟨[], [], [], []⟩ n_spec_l01Hash [(.int .u8 x0), (.slice x1.a x1.n x1.c)] = spec_l01Hash C x0 x1 := by kernel_rfl
theorem spec_l01Hash_calls {R : Value → World → Prop} {w : World} (x0 : Int) (x1 : Sl) (h : (spec_l01Hash (real Tryz.prog R) x0 x1 : World → Prop) w) :
    Calls Tryz.prog n_spec_l01Hash [(.int .u8 x0), (.slice x1.a x1.n x1.c)].toArray w fun e w' => ∃ v, e = .returned v ∧ R v w' := fT_sound mixed ⟨[], [], [], []⟩ (by rw [spec_l01Hash_eq]; exact h)

def laws_szBlobS (C : Comb) (x0 : Sl) (x1 : Int) : C.St :=
 cond (decide ((IntKind.wrap .i64 (x1 - (x0.n : Int))) < 0)) (
 C.ret (.int .i64 (-1))
 ) (
 C.loop (TL [(.int .i64), (.int .i64)]) (embL [(.int .i64), (.int .i64)]) [(.int .i64 (IntKind.wrap .i64 (x1 - (x0.n : Int)))), (.int .i64 0)] fun s1 ct1 => C.any fun _ =>
 cond (decide (s1.2 < (x0.n : Int))) (
 C.ix x0.a x0.n 2 s1.2 fun p20 =>
 C.ld .agg 2 p20 fun v21 =>
 C.call n_laws_szBlob [(.agg v21), (.int .i64 s1.1)] [(.int .i64)] fun r23 =>
 cond (decide (r23 < 0)) (
 C.ret (.int .i64 (-1))
 ) (
 ct1 [(.int .i64 r23), (.int .i64 (IntKind.wrap .i64 (s1.2 + 1)))]
 )
 ) (
 C.ret (.int .i64 s1.1)
 )
 )
theorem laws_szBlobS_eq (C : Comb) (x0 : Sl) (x1 : Int) : fT C Tryz.prog ⟨[(5, [(1, (.int .i64)), (5, (.int .i64))])], [], [], []⟩ n_laws_szBlobS [(.slice x0.a x0.n x0.c), (.int .i64 x1)] = laws_szBlobS C x0 x1 := by kernel_rfl
theorem laws_szBlobS_calls {R : Value → World → Prop} {w : World} (x0 : Sl) (x1 : Int) (h : (laws_szBlobS (real Tryz.prog R) x0 x1 : World → Prop) w) :
    Calls Tryz.prog n_laws_szBlobS [(.slice x0.a x0.n x0.c), (.int .i64 x1)].toArray w fun e w' => ∃ v, e = .returned v ∧ R v w' := fT_sound mixed ⟨[(5, [(1, (.int .i64)), (5, (.int .i64))])], [], [], []⟩ (by rw [laws_szBlobS_eq]; exact h)

def laws_toBlobS (C : Comb) (x0 : Sl) : C.St :=
 C.sem (Instr.makeSlice ty_sl_impl_Blob (.int .i64 (x0.n : Int)) (.int .i64 (x0.n : Int))) .slice fun y7 =>
 C.loop (TL [(.int .i64)]) (embL [(.int .i64)]) [(.int .i64 0)] fun s2 ct2 => C.any fun _ =>
 cond (decide (s2 < (x0.n : Int))) (
 C.ix x0.a x0.n 2 s2 fun p18 =>
 C.ld .agg 2 p18 fun v19 =>
 C.call n_laws_toBlob [(.agg v19)] [.agg] fun r20 =>
 C.ix y7.a y7.n 2 s2 fun p21 =>
 C.st 2 p21 (.agg r20) <|
 ct2 [(.int .i64 (IntKind.wrap .i64 (s2 + 1)))]
 ) (
 C.ret (.slice y7.a y7.n y7.c)
 )
theorem laws_toBlobS_eq (C : Comb) (x0 : Sl) : fT C Tryz.prog ⟨[(3, [(4, (.int .i64))])], [], [], []⟩ n_laws_toBlobS [(.slice x0.a x0.n x0.c)] = laws_toBlobS C x0 := by kernel_rfl
theorem laws_toBlobS_calls {R : Value → World → Prop} {w : World} (x0 : Sl) (h : (laws_toBlobS (real Tryz.prog R) x0 : World → Prop) w) :
    Calls Tryz.prog n_laws_toBlobS [(.slice x0.a x0.n x0.c)].toArray w fun e w' => ∃ v, e = .returned v ∧ R v w' := fT_sound mixed ⟨[(3, [(4, (.int .i64))])], [], [], []⟩ (by rw [laws_toBlobS_eq]; exact h)

def laws_toKey (C : Comb) (x0 : Array Value) : C.St :=
 C.new ty_arr32_uint8 (.agg x0) fun b1 =>
 C.new ty_impl_Key (.agg (Array.replicate 32 (.int .u8 0))) fun b2 =>
 C.new ty_impl_Key (.agg (Array.replicate 32 (.int .u8 0))) fun b3 =>
 C.loop (TL [(.int .i64)]) (embL [(.int .i64)]) [(.int .i64 0)] fun s4 ct4 => C.any fun _ =>
 cond (decide (s4 < 32)) (
 C.ix (some (Addr.mk b1 0 none)) 32 1 s4 fun p11 =>
 C.ld (.int .u8) 1 p11 fun v12 =>
 C.ix (some (Addr.mk b3 0 none)) 32 1 s4 fun p13 =>
 C.st 1 p13 (.int .u8 v12) <|
 ct4 [(.int .i64 (IntKind.wrap .i64 (s4 + 1)))]
 ) (
 C.ld .agg 32 (Addr.mk b3 0 none) fun v14 =>
 C.st 32 (Addr.mk b2 0 none) (.agg v14) <|
 C.ld .agg 32 (Addr.mk b2 0 none) fun z9 =>
 C.ret (.agg z9)
 )
theorem laws_toKey_eq (C : Comb) (x0 : Array Value) : fT C Tryz.prog ⟨[(3, [(4, (.int .i64))])], [], [], []⟩ n_laws_toKey [(.agg x0)] = laws_toKey C x0 := by kernel_rfl
theorem laws_toKey_calls {R : Value → World → Prop} {w : World} (x0 : Array Value) (h : (laws_toKey (real Tryz.prog R) x0 : World → Prop) w) :
    Calls Tryz.prog n_laws_toKey [(.agg x0)].toArray w fun e w' => ∃ v, e = .returned v ∧ R v w' := fT_sound mixed ⟨[(3, [(4, (.int .i64))])], [], [], []⟩ (by rw [laws_toKey_eq]; exact h)

def impl_PackReachable_1 (C : Comb) (x0 : Array Value) (x1 : Addr) : C.St :=
 C.new ty_impl_Key (.agg x0) fun b2 =>
 C.ld .slice 1 x1 fun v4 =>
 C.ld .agg 32 (Addr.mk b2 0 none) fun v5 =>
 C.call n_slices_Contains_sl_impl_Key_impl_Key [(.slice v4.a v4.n v4.c), (.agg v5)] [.bool] fun r6 =>
 C.ret (.bool r6)
theorem impl_PackReachable_1_eq (C : Comb) (x0 : Array Value) (x1 : Addr) : fT C Tryz.prog ⟨[], [], [], []⟩ n_impl_PackReachable_1 [(.agg x0), (.pointer (some x1))] = impl_PackReachable_1 C x0 x1 := by kernel_rfl
theorem impl_PackReachable_1_calls {R : Value → World → Prop} {w : World} (x0 : Array Value) (x1 : Addr) (h : (impl_PackReachable_1 (real Tryz.prog R) x0 x1 : World → Prop) w) :
    Calls Tryz.prog n_impl_PackReachable_1 [(.agg x0), (.pointer (some x1))].toArray w fun e w' => ∃ v, e = .returned v ∧ R v w' := fT_sound mixed ⟨[], [], [], []⟩ (by rw [impl_PackReachable_1_eq]; exact h)

def laws_eqBlobS (C : Comb) (x0 : Sl) (x1 : Sl) : C.St :=
 cond ((x0.n : Int) != (x1.n : Int)) (
 C.ret (.bool false)
 ) (
 C.loop (TL [(.int .i64)]) (embL [(.int .i64)]) [(.int .i64 0)] fun s1 ct1 => C.any fun _ =>
 cond (decide (s1 < (x0.n : Int))) (
 C.draw <|
 C.ix x0.a x0.n 2 s1 fun p19 =>
 C.ld .agg 2 p19 fun v20 =>
 C.ix x1.a x1.n 2 s1 fun p23 =>
 C.ld .agg 2 p23 fun v24 =>
 C.call n_laws_eqBlob [(.agg v20), (.agg v24)] [.bool] fun r25 =>
 cond (!r25) (
 C.ret (.bool false)
 ) (
 ct1 [(.int .i64 (IntKind.wrap .i64 (s1 + 1)))]
 )
 ) (
 C.ret (.bool true)
 )
 )
theorem laws_eqBlobS_eq (C : Comb) (x0 : Sl) (x1 : Sl) : fT C Tryz.prog ⟨[(4, [(5, (.int .i64))])], [], [6], []⟩ n_laws_eqBlobS [(.slice x0.a x0.n x0.c), (.slice x1.a x1.n x1.c)] = laws_eqBlobS C x0 x1 := by kernel_rfl
theorem laws_eqBlobS_calls {R : Value → World → Prop} {w : World} (x0 : Sl) (x1 : Sl) (h : (laws_eqBlobS (real Tryz.prog R) x0 x1 : World → Prop) w) :
    Calls Tryz.prog n_laws_eqBlobS [(.slice x0.a x0.n x0.c), (.slice x1.a x1.n x1.c)].toArray w fun e w' => ∃ v, e = .returned v ∧ R v w' := fT_sound mixed ⟨[(4, [(5, (.int .i64))])], [], [6], []⟩ (by rw [laws_eqBlobS_eq]; exact h)

def laws_eqKey (C : Comb) (x0 : Array Value) (x1 : Array Value) : C.St :=
 C.new ty_impl_Key (.agg x0) fun b2 =>
 C.new ty_impl_Key (.agg x1) fun b3 =>
 C.loop (TL [(.int .i64)]) (embL [(.int .i64)]) [(.int .i64 0)] fun s3 ct3 => C.any fun _ =>
 cond (decide (s3 < 32)) (
 C.draw <|
 C.ix (some (Addr.mk b2 0 none)) 32 1 s3 fun p11 =>
 C.ld (.int .u8) 1 p11 fun v12 =>
 C.ix (some (Addr.mk b3 0 none)) 32 1 s3 fun p14 =>
 C.ld (.int .u8) 1 p14 fun v15 =>
 cond (v12 != v15) (
 C.ret (.bool false)
 ) (
 ct3 [(.int .i64 (IntKind.wrap .i64 (s3 + 1)))]
 )
 ) (
 C.ret (.bool true)
 )
theorem laws_eqKey_eq (C : Comb) (x0 : Array Value) (x1 : Array Value) : fT C Tryz.prog ⟨[(2, [(5, (.int .i64))])], [], [], []⟩ n_laws_eqKey [(.agg x0), (.agg x1)] = laws_eqKey C x0 x1 := by kernel_rfl
theorem laws_eqKey_calls {R : Value → World → Prop} {w : World} (x0 : Array Value) (x1 : Array Value) (h : (laws_eqKey (real Tryz.prog R) x0 x1 : World → Prop) w) :
    Calls Tryz.prog n_laws_eqKey [(.agg x0), (.agg x1)].toArray w fun e w' => ∃ v, e = .returned v ∧ R v w' := fT_sound mixed ⟨[(2, [(5, (.int .i64))])], [], [], []⟩ (by rw [laws_eqKey_eq]; exact h)

def laws_markBlobS (C : Comb) (x0 : Sl) (x1 : Int) : C.St :=
 C.loop (TL [(.int .i64), (.int .i64)]) (embL [(.int .i64), (.int .i64)]) [(.int .i64 x1), (.int .i64 0)] fun s1 ct1 => C.any fun _ =>
 cond (decide (s1.2 < (x0.n : Int))) (
 C.ix x0.a x0.n 2 s1.2 fun p16 =>
 C.st 1 (p16.add 0) (.int .u8 (IntKind.wrap .u8 (s1.1))) <|
 C.ix x0.a x0.n 2 s1.2 fun p22 =>
 C.ld .slice 1 (p22.add 1) fun v24 =>
 C.call n_laws_markByteS [(.slice v24.a v24.n v24.c), (.int .i64 (IntKind.wrap .i64 (s1.1 + 1)))] [(.int .i64)] fun r26 =>
 ct1 [(.int .i64 r26), (.int .i64 (IntKind.wrap .i64 (s1.2 + 1)))]
 ) (
 C.ret (.int .i64 s1.1)
 )
theorem laws_markBlobS_eq (C : Comb) (x0 : Sl) (x1 : Int) : fT C Tryz.prog ⟨[(2, [(1, (.int .i64)), (5, (.int .i64))])], [], [], []⟩ n_laws_markBlobS [(.slice x0.a x0.n x0.c), (.int .i64 x1)] = laws_markBlobS C x0 x1 := by kernel_rfl
theorem laws_markBlobS_calls {R : Value → World → Prop} {w : World} (x0 : Sl) (x1 : Int) (h : (laws_markBlobS (real Tryz.prog R) x0 x1 : World → Prop) w) :
    Calls Tryz.prog n_laws_markBlobS [(.slice x0.a x0.n x0.c), (.int .i64 x1)].toArray w fun e w' => ∃ v, e = .returned v ∧ R v w' := fT_sound mixed ⟨[(2, [(1, (.int .i64)), (5, (.int .i64))])], [], [], []⟩ (by rw [laws_markBlobS_eq]; exact h)

def ptr_impl_shop_has (C : Comb) (x0 : Addr) (x1 : Array Value) : C.St :=
 C.new ty_impl_Key (.agg x1) fun b3 =>
 C.ld .agg 32 (Addr.mk b3 0 none) fun v9 =>
 C.call n_ptr_impl_shop_find [(.pointer (some x0)), (.agg v9)] [(.int .i64), .bool] fun r10 =>
 C.ret (.bool r10.2)
theorem ptr_impl_shop_has_eq (C : Comb) (x0 : Addr) (x1 : Array Value) : fT C Tryz.prog ⟨[], [], [], []⟩ n_ptr_impl_shop_has [(.pointer (some x0)), (.agg x1)] = ptr_impl_shop_has C x0 x1 := by kernel_rfl
theorem ptr_impl_shop_has_calls {R : Value → World → Prop} {w : World} (x0 : Addr) (x1 : Array Value) (h : (ptr_impl_shop_has (real Tryz.prog R) x0 x1 : World → Prop) w) :
    Calls Tryz.prog n_ptr_impl_shop_has [(.pointer (some x0)), (.agg x1)].toArray w fun e w' => ∃ v, e = .returned v ∧ R v w' := fT_sound mixed ⟨[], [], [], []⟩ (by rw [ptr_impl_shop_has_eq]; exact h)

def ptr_impl_shop_get (C : Comb) (x0 : Addr) (x1 : Array Value) : C.St :=
 C.new ty_impl_Key (.agg x1) fun b3 =>
 C.new ty_impl_Blob (.agg (#[(.int .u8 0), (.slice none 0 0)])) fun b4 =>
 C.ld .agg 32 (Addr.mk b3 0 none) fun v10 =>
 C.call n_ptr_impl_shop_find [(.pointer (some x0)), (.agg v10)] [(.int .i64), .bool] fun r11 =>
 cond (!r11.2) (
 C.pur (Instr.build ty_impl_Blob #[]) .agg fun y16 =>
 C.st 2 (Addr.mk b4 0 none) (.agg y16) <|
 C.ld .agg 2 (Addr.mk b4 0 none) fun z6 =>
 C.ret (.tuple #[(.agg z6), (.bool false)])
 ) (
 C.ld .slice 1 (x0.add 1) fun v20 =>
 C.ix v20.a v20.n 2 r11.1 fun p22 =>
 C.ld .agg 2 p22 fun v23 =>
 C.st 2 (Addr.mk b4 0 none) (.agg v23) <|
 C.ld .agg 2 (Addr.mk b4 0 none) fun z10 =>
 C.ret (.tuple #[(.agg z10), (.bool true)])
 )
theorem ptr_impl_shop_get_eq (C : Comb) (x0 : Addr) (x1 : Array Value) : fT C Tryz.prog ⟨[], [], [], []⟩ n_ptr_impl_shop_get [(.pointer (some x0)), (.agg x1)] = ptr_impl_shop_get C x0 x1 := by kernel_rfl
theorem ptr_impl_shop_get_calls {R : Value → World → Prop} {w : World} (x0 : Addr) (x1 : Array Value) (h : (ptr_impl_shop_get (real Tryz.prog R) x0 x1 : World → Prop) w) :
    Calls Tryz.prog n_ptr_impl_shop_get [(.pointer (some x0)), (.agg x1)].toArray w fun e w' => ∃ v, e = .returned v ∧ R v w' := fT_sound mixed ⟨[], [], [], []⟩ (by rw [ptr_impl_shop_get_eq]; exact h)

def impl_Blob_links (C : Comb) (x0 : Array Value) : C.St :=
 C.new ty_impl_Blob (.agg x0) fun b1 =>
 C.ld .slice 1 ((Addr.mk b1 0 none).add 1) fun v8 =>
 C.ld (.int .u8) 1 ((Addr.mk b1 0 none).add 0) fun v11 =>
 cond (v11 == 2) (
 cond ((v8.n : Int) == 64) (
 C.ld .slice 1 ((Addr.mk b1 0 none).add 1) fun v17 =>
 C.call n_impl_keysIn [(.slice v17.a v17.n v17.c)] [.slice] fun r18 =>
 C.ret (.slice r18.a r18.n r18.c)
 ) (
 C.ret (.slice none 0 0)
 )
 ) (
 cond (v11 == 5) (
 C.ld .slice 1 ((Addr.mk b1 0 none).add 1) fun v23 =>
 C.call n_impl_ReadMapNode [(.slice v23.a v23.n v23.c)] [.agg, (.int .i64)] fun r24 =>
 C.new ty_impl_MapNode (.agg (#[(.int .u8 0), (.int .u8 0), (.int .u8 0), (.int .u8 0), (.int .u8 0), (.int .u8 0), (.int .u8 0), (.int .u8 0), (.int .u8 0), (.int .u8 0), (.int .u8 0), (.int .u8 0), (.int .u8 0), (.int .u8 0), (.int .u8 0), (.int .u8 0), (.int .u8 0), (.int .u8 0), (.int .u8 0), (.int .u8 0), (.int .u8 0), (.int .u8 0), (.int .u8 0), (.int .u8 0), (.int .u8 0), (.int .u8 0), (.int .u8 0), (.int .u8 0), (.int .u8 0), (.int .u8 0), (.int .u8 0), (.int .u8 0), (.int .u8 0), (.int .u8 0), (.int .u8 0), (.int .u8 0), (.int .u8 0), (.int .u8 0), (.int .u8 0), (.int .u8 0), (.int .u8 0), (.int .u8 0), (.int .u8 0), (.int .u8 0), (.int .u8 0), (.int .u8 0), (.int .u8 0), (.int .u8 0), (.int .u8 0), (.int .u8 0), (.int .u8 0), (.int .u8 0), (.int .u8 0), (.int .u8 0), (.int .u8 0), (.int .u8 0), (.int .u8 0), (.int .u8 0), (.int .u8 0), (.int .u8 0), (.int .u8 0), (.int .u8 0), (.int .u8 0), (.int .u8 0), (.string (⟨#[]⟩ : ByteArray)), (.string (⟨#[]⟩ : ByteArray))])) fun b4 =>
 C.st 66 (Addr.mk b4 0 none) (.agg r24.1) <|
 cond (r24.2 == 0) (
 C.call n_impl_EmptyMapKey [] [.agg] fun r29 =>
 C.new ty_impl_Key (.agg (Array.replicate 32 (.int .u8 0))) fun b6 =>
 C.st 32 (Addr.mk b6 0 none) (.agg r29) <|
 C.ld .agg 32 ((Addr.mk b4 0 none).add 0) fun v31 =>
 C.ld .agg 32 ((Addr.mk b4 0 none).add 32) fun v33 =>
 C.sem (Instr.buildSlice ty_sl_impl_Key 2 #[(0, (.agg v31)), (1, (.agg v33))]) .slice fun y34 =>
 C.call n_slices_DeleteFunc_sl_impl_Key_impl_Key [(.slice y34.a y34.n y34.c), (.func (.func n_impl_Blob_links_1) #[] #[(.pointer (some (Addr.mk b6 0 none)))])] [.slice] fun r36 =>
 C.ret (.slice r36.a r36.n r36.c)
 ) (
 C.ret (.slice none 0 0)
 )
 ) (
 cond (v11 == 6) (
 cond ((Int.tmod (v8.n : Int) 32) == 0) (
 C.ld .slice 1 ((Addr.mk b1 0 none).add 1) fun v43 =>
 C.call n_impl_keysIn [(.slice v43.a v43.n v43.c)] [.slice] fun r44 =>
 C.ret (.slice r44.a r44.n r44.c)
 ) (
 C.ret (.slice none 0 0)
 )
 ) (
 cond (v11 == 7) (
 C.join (TL [.bool]) (embL [.bool]) (fun s20 => C.any fun _ =>
 cond s20 (
 C.draw <|
 C.ld .slice 1 ((Addr.mk b1 0 none).add 1) fun v61 =>
 C.ld .slice 1 ((Addr.mk b1 0 none).add 1) fun v63 =>
 C.ix v63.a v63.n 1 0 fun p64 =>
 C.ld (.int .u8) 1 p64 fun v65 =>
 C.sl v61.a v61.n v61.c 1 (some 1) (some (IntKind.wrap .i64 (1 + (IntKind.wrap .i64 (32 * (IntKind.wrap .i64 (v65))))))) none fun y69 =>
 C.call n_impl_keysIn [(.slice y69.a y69.n y69.c)] [.slice] fun r70 =>
 C.chk [⟨5, 1, p64, (.int .u8), v65⟩, ⟨3, 1, ((Addr.mk b1 0 none).add 1), .slice, v63⟩, ⟨1, 1, ((Addr.mk b1 0 none).add 1), .slice, v61⟩] <|
 C.ret (.slice r70.a r70.n r70.c)
 ) (
 C.ret (.slice none 0 0)
 )
 ) fun jt =>
 cond (decide ((v8.n : Int) > 0)) (
 C.ld .slice 1 ((Addr.mk b1 0 none).add 1) fun v52 =>
 C.ix v52.a v52.n 1 0 fun p53 =>
 C.ld (.int .u8) 1 p53 fun v54 =>
 jt [(.bool (decide ((v8.n : Int) ≥ (IntKind.wrap .i64 (1 + (IntKind.wrap .i64 (32 * (IntKind.wrap .i64 (v54)))))))))]
 ) (
 jt [(.bool false)]
 )
 ) (
 C.ret (.slice none 0 0)
 )
 )
 )
 )
theorem impl_Blob_links_eq (C : Comb) (x0 : Array Value) : fT C Tryz.prog ⟨[], [(46, [(59, .bool)])], [16], []⟩ n_impl_Blob_links [(.agg x0)] = impl_Blob_links C x0 := by kernel_rfl
theorem impl_Blob_links_calls {R : Value → World → Prop} {w : World} (x0 : Array Value) (h : (impl_Blob_links (real Tryz.prog R) x0 : World → Prop) w) :
    Calls Tryz.prog n_impl_Blob_links [(.agg x0)].toArray w fun e w' => ∃ v, e = .returned v ∧ R v w' := fT_sound mixed ⟨[], [(46, [(59, .bool)])], [16], []⟩ (by rw [impl_Blob_links_eq]; exact h)

def ptr_spec_l05Store_find (C : Comb) (x0 : Addr) (x1 : Array Value) : C.St :=
 C.new ty_impl_Key (.agg x1) fun b3 =>
 C.loop (TL [(.int .i64)]) (embL [(.int .i64)]) [(.int .i64 0)] fun s2 ct2 => C.any fun _ =>
 C.ld .slice 1 (x0.add 1) fun v10 =>
 cond (decide (s2 < (v10.n : Int))) (
 C.draw <|
 C.ld .slice 1 (x0.add 1) fun v18 =>
 C.ix v18.a v18.n 32 s2 fun p20 =>
 C.ld .agg 32 p20 fun v21 =>
 C.ld .agg 32 (Addr.mk b3 0 none) fun v22 =>
 C.pur (eqB .eql ty_impl_Key (.tmp 21) (.tmp 22) (.agg v21) (.agg v22)) .bool fun y23 =>
 cond y23 (
 C.ret (.int .i64 s2)
 ) (
 ct2 [(.int .i64 (IntKind.wrap .i64 (s2 + 1)))]
 )
 ) (
 C.ret (.int .i64 (-1))
 )
theorem ptr_spec_l05Store_find_eq (C : Comb) (x0 : Addr) (x1 : Array Value) : fT C Tryz.prog ⟨[(2, [(5, (.int .i64))])], [], [], []⟩ n_ptr_spec_l05Store_find [(.pointer (some x0)), (.agg x1)] = ptr_spec_l05Store_find C x0 x1 := by kernel_rfl
theorem ptr_spec_l05Store_find_calls {R : Value → World → Prop} {w : World} (x0 : Addr) (x1 : Array Value) (h : (ptr_spec_l05Store_find (real Tryz.prog R) x0 x1 : World → Prop) w) :
    Calls Tryz.prog n_ptr_spec_l05Store_find [(.pointer (some x0)), (.agg x1)].toArray w fun e w' => ∃ v, e = .returned v ∧ R v w' := fT_sound mixed ⟨[(2, [(5, (.int .i64))])], [], [], []⟩ (by rw [ptr_spec_l05Store_find_eq]; exact h)

end Go.Proofs.YtkifkdkjljcclaaGreat
