/- Printed by a program of this claim's author: each Go function as a Lean function over abstract combinators, and the equation that says that T makes it of the loaded code. -/
import Derived.Test.YtkifkdkjljcclaaGreatProg
import Derived.Test.YtkifkdkjljcclaaGreatPkLTor08
namespace Go.Proofs.YtkifkdkjljcclaaGreat
open Go.Sx
def spec_l05Copy (C : Comb) (x0 : Array Value) : C.St :=
 C.new ty_impl_Blob (.agg x0) fun b1 =>
 C.new ty_impl_Blob (.agg (#[(.int .u8 0), (.slice none 0 0)])) fun b2 =>
 C.draw <|
 C.ld (.int .u8) 1 ((Addr.mk b1 0 none).add 0) fun v4 =>
 C.ld .slice 1 ((Addr.mk b1 0 none).add 1) fun v7 =>
 C.sem (Instr.buildSlice ty_sl_uint8 0 #[]) .slice fun y5 =>
 C.chk [⟨4, 1, ((Addr.mk b1 0 none).add 1), .slice, v7⟩, ⟨1, 1, ((Addr.mk b1 0 none).add 0), (.int .u8), v4⟩] <|
 C.sem (Builtin.append_ #[ty_sl_uint8, ty_sl_uint8] ty_sl_uint8 #[(.slice y5.a y5.n y5.c), (.slice v7.a v7.n v7.c)]) .slice fun y8 =>
 C.chk [⟨1, 1, ((Addr.mk b1 0 none).add 0), (.int .u8), v4⟩] <|
 C.pur (Instr.build ty_impl_Blob #[(0, (.int .u8 v4)), (1, (.slice y8.a y8.n y8.c))]) .agg fun y9 =>
 C.st 2 (Addr.mk b2 0 none) (.agg y9) <|
 C.ld .agg 2 (Addr.mk b2 0 none) fun z8 =>
 C.ret (.agg z8)
theorem spec_l05Copy_eq (C : Comb) (x0 : Array Value) : fT C Tryz.prog ⟨[], [], [1], []⟩ n_spec_l05Copy [(.agg x0)] = spec_l05Copy C x0 := by kernel_rfl
theorem spec_l05Copy_calls {R : Value → World → Prop} {w : World} (x0 : Array Value) (h : (spec_l05Copy (real Tryz.prog R) x0 : World → Prop) w) :
    Calls Tryz.prog n_spec_l05Copy [(.agg x0)].toArray w fun e w' => ∃ v, e = .returned v ∧ R v w' := fT_sound mixed ⟨[], [], [1], []⟩ (by rw [spec_l05Copy_eq]; exact h)

def spec_l04Drawn (C : Comb) (x0 : Addr) (x1 : Int) : C.St :=
 C.sem (Instr.buildSlice ty_sl_impl_Entry 0 #[]) .slice fun y7 =>
 C.call n_ptr_spec_l00Src_pick [(.pointer (some x0)), (.int .i64 (IntKind.wrap .i64 (x1 + 1)))] [(.int .i64)] fun r11 =>
 C.loop (TL [.slice, (.int .i64)]) (embL [.slice, (.int .i64)]) [(.slice y7.a y7.n y7.c), (.int .i64 r11)] fun s3 ct3 => C.any fun _ =>
 cond (decide (s3.2 > 0)) (
 C.call n_spec_l04DrawEntry [(.pointer (some x0))] [.agg] fun r18 =>
 C.call n_spec_l04Put [(.slice s3.1.a s3.1.n s3.1.c), (.agg r18)] [.slice] fun r19 =>
 ct3 [(.slice r19.a r19.n r19.c), (.int .i64 (IntKind.wrap .i64 (s3.2 - 1)))]
 ) (
 C.ret (.slice s3.1.a s3.1.n s3.1.c)
 )
theorem spec_l04Drawn_eq (C : Comb) (x0 : Addr) (x1 : Int) : fT C Tryz.prog ⟨[(3, [(5, .slice), (6, (.int .i64))])], [], [], []⟩ n_spec_l04Drawn [(.pointer (some x0)), (.int .i64 x1)] = spec_l04Drawn C x0 x1 := by kernel_rfl
theorem spec_l04Drawn_calls {R : Value → World → Prop} {w : World} (x0 : Addr) (x1 : Int) (h : (spec_l04Drawn (real Tryz.prog R) x0 x1 : World → Prop) w) :
    Calls Tryz.prog n_spec_l04Drawn [(.pointer (some x0)), (.int .i64 x1)].toArray w fun e w' => ∃ v, e = .returned v ∧ R v w' := fT_sound mixed ⟨[(3, [(5, .slice), (6, (.int .i64))])], [], [], []⟩ (by rw [spec_l04Drawn_eq]; exact h)

def spec_l04Ok (C : Comb) (x0 : Sl) : C.St :=
 C.loop (TL [(.int .i64)]) (embL [(.int .i64)]) [(.int .i64 0)] fun s1 ct1 => C.any fun _ =>
 cond (decide (s1 < (x0.n : Int))) (
 C.draw <|
 C.ix x0.a x0.n 2 s1 fun p12 =>
 C.callQ n_spec_l04Entry [(.pointer (some p12))] [.bool] fun r13 =>
 cond (!r13) (
 C.ret (.bool false)
 ) (
 cond (decide (s1 > 0)) (
 C.ix x0.a x0.n 2 (IntKind.wrap .i64 (s1 - 1)) fun p22 =>
 C.ld .str 1 (p22.add 0) fun v24 =>
 C.ix x0.a x0.n 2 s1 fun p27 =>
 C.ld .str 1 (p27.add 0) fun v29 =>
 C.pur (eqB .geq ty_string (.tmp 24) (.tmp 29) (.string v24) (.string v29)) .bool fun y30 =>
 cond y30 (
 C.ret (.bool false)
 ) (
 ct1 [(.int .i64 (IntKind.wrap .i64 (s1 + 1)))]
 )
 ) (
 ct1 [(.int .i64 (IntKind.wrap .i64 (s1 + 1)))]
 )
 )
 ) (
 C.ret (.bool (decide ((x0.n : Int) ≤ 64)))
 )
theorem spec_l04Ok_eq (C : Comb) (x0 : Sl) : fT C Tryz.prog ⟨[(2, [(3, (.int .i64))])], [], [], []⟩ n_spec_l04Ok [(.slice x0.a x0.n x0.c)] = spec_l04Ok C x0 := by kernel_rfl
theorem spec_l04Ok_calls {R : Value → World → Prop} {w : World} (x0 : Sl) (h : (spec_l04Ok (real Tryz.prog R) x0 : World → Prop) w) :
    Calls Tryz.prog n_spec_l04Ok [(.slice x0.a x0.n x0.c)].toArray w fun e w' => ∃ v, e = .returned v ∧ R v w' := fT_sound mixed ⟨[(2, [(3, (.int .i64))])], [], [], []⟩ (by rw [spec_l04Ok_eq]; exact h)

def spec_l04Nodes (C : Comb) (x0 : Sl) : C.St :=
 C.new ty_impl_Key (.agg (Array.replicate 32 (.int .u8 0))) fun b3 =>
 cond ((x0.n : Int) == 0) (
 C.sem (Instr.buildSlice ty_sl_impl_MapNode 0 #[]) .slice fun y14 =>
 C.call n_spec_l04Empty [] [.agg] fun r15 =>
 C.st 32 (Addr.mk b3 0 none) (.agg r15) <|
 C.ld .agg 32 (Addr.mk b3 0 none) fun z4 =>
 C.ret (.tuple #[(.slice y14.a y14.n y14.c), (.agg z4)])
 ) (
 C.call n_spec_l04Top [(.slice x0.a x0.n x0.c)] [(.int .i64)] fun r17 =>
 C.sl x0.a x0.n x0.c 2 none (some r17) none fun y21 =>
 C.call n_spec_l04Nodes [(.slice y21.a y21.n y21.c)] [.slice, .agg] fun r22 =>
 C.new ty_impl_Key (.agg (Array.replicate 32 (.int .u8 0))) fun b6 =>
 C.st 32 (Addr.mk b6 0 none) (.agg r22.2) <|
 C.sl x0.a x0.n x0.c 2 (some (IntKind.wrap .i64 (r17 + 1))) none none fun y29 =>
 C.call n_spec_l04Nodes [(.slice y29.a y29.n y29.c)] [.slice, .agg] fun r30 =>
 C.new ty_impl_Key (.agg (Array.replicate 32 (.int .u8 0))) fun b8 =>
 C.st 32 (Addr.mk b8 0 none) (.agg r30.2) <|
 C.join (TL [.ptr]) (embL [.ptr]) (fun s18 => C.any fun _ =>
 C.ld .agg 66 s18 fun v40 =>
 C.sem (Instr.buildSlice ty_sl_impl_MapNode 1 #[(0, (.agg v40))]) .slice fun y41 =>
 C.sem (Builtin.append_ #[ty_sl_impl_MapNode, ty_sl_impl_MapNode] ty_sl_impl_MapNode #[(.slice y41.a y41.n y41.c), (.slice r22.1.a r22.1.n r22.1.c)]) .slice fun y43 =>
 C.sem (Builtin.append_ #[ty_sl_impl_MapNode, ty_sl_impl_MapNode] ty_sl_impl_MapNode #[(.slice y43.a y43.n y43.c), (.slice r30.1.a r30.1.n r30.1.c)]) .slice fun y46 =>
 C.call n_spec_l04NodeKey [(.pointer (some s18))] [.agg] fun r47 =>
 C.st 32 (Addr.mk b3 0 none) (.agg r47) <|
 C.ld .agg 32 (Addr.mk b3 0 none) fun z24 =>
 C.ret (.tuple #[(.slice y46.a y46.n y46.c), (.agg z24)])
 ) fun jt =>
 C.draw <|
 C.ld .agg 32 (Addr.mk b6 0 none) fun v33 =>
 C.ld .agg 32 (Addr.mk b8 0 none) fun v34 =>
 C.ix x0.a x0.n 2 r17 fun p37 =>
 C.ld .agg 2 p37 fun v38 =>
 C.pur (Instr.build ty_impl_MapNode #[(0, (.agg v33)), (1, (.agg v34)), (2, (.agg v38))]) .agg fun y39 =>
 C.new ty_impl_MapNode (.agg (#[(.int .u8 0), (.int .u8 0), (.int .u8 0), (.int .u8 0), (.int .u8 0), (.int .u8 0), (.int .u8 0), (.int .u8 0), (.int .u8 0), (.int .u8 0), (.int .u8 0), (.int .u8 0), (.int .u8 0), (.int .u8 0), (.int .u8 0), (.int .u8 0), (.int .u8 0), (.int .u8 0), (.int .u8 0), (.int .u8 0), (.int .u8 0), (.int .u8 0), (.int .u8 0), (.int .u8 0), (.int .u8 0), (.int .u8 0), (.int .u8 0), (.int .u8 0), (.int .u8 0), (.int .u8 0), (.int .u8 0), (.int .u8 0), (.int .u8 0), (.int .u8 0), (.int .u8 0), (.int .u8 0), (.int .u8 0), (.int .u8 0), (.int .u8 0), (.int .u8 0), (.int .u8 0), (.int .u8 0), (.int .u8 0), (.int .u8 0), (.int .u8 0), (.int .u8 0), (.int .u8 0), (.int .u8 0), (.int .u8 0), (.int .u8 0), (.int .u8 0), (.int .u8 0), (.int .u8 0), (.int .u8 0), (.int .u8 0), (.int .u8 0), (.int .u8 0), (.int .u8 0), (.int .u8 0), (.int .u8 0), (.int .u8 0), (.int .u8 0), (.int .u8 0), (.int .u8 0), (.string (⟨#[]⟩ : ByteArray)), (.string (⟨#[]⟩ : ByteArray))])) fun b9 =>
 C.chk [⟨5, 2, p37, .agg, v38⟩, ⟨1, 32, (Addr.mk b8 0 none), .agg, v34⟩, ⟨0, 32, (Addr.mk b6 0 none), .agg, v33⟩] <|
 C.st 66 (Addr.mk b9 0 none) (.agg y39) <|
 jt [(.pointer (some (Addr.mk b9 0 none)))]
 )
theorem spec_l04Nodes_eq (C : Comb) (x0 : Sl) : fT C Tryz.prog ⟨[], [(19, [(9, .ptr)])], [6], []⟩ n_spec_l04Nodes [(.slice x0.a x0.n x0.c)] = spec_l04Nodes C x0 := by kernel_rfl
theorem spec_l04Nodes_calls {R : Value → World → Prop} {w : World} (x0 : Sl) (h : (spec_l04Nodes (real Tryz.prog R) x0 : World → Prop) w) :
    Calls Tryz.prog n_spec_l04Nodes [(.slice x0.a x0.n x0.c)].toArray w fun e w' => ∃ v, e = .returned v ∧ R v w' := fT_sound mixed ⟨[], [(19, [(9, .ptr)])], [6], []⟩ (by rw [spec_l04Nodes_eq]; exact h)

def ptr_spec_l05Store_put (C : Comb) (x0 : Addr) (x1 : Array Value) : C.St :=
 C.new ty_impl_Blob (.agg x1) fun b3 =>
 C.new ty_impl_Key (.agg (Array.replicate 32 (.int .u8 0))) fun b4 =>
 C.call n_spec_l05Key [(.pointer (some (Addr.mk b3 0 none)))] [.agg] fun r10 =>
 C.new ty_impl_Key (.agg (Array.replicate 32 (.int .u8 0))) fun b6 =>
 C.st 32 (Addr.mk b6 0 none) (.agg r10) <|
 C.join (TL [(.int .i64)]) (embL [(.int .i64)]) (fun s20 => C.any fun _ =>
 C.join (TL [.bool]) (embL [.bool]) (fun s27 => C.any fun _ =>
 cond s27 (
 C.ld .slice 1 (x0.add 0) fun v53 =>
 C.ix v53.a v53.n 2 s20 fun p55 =>
 C.call n_spec_l05SameBlob [(.pointer (some p55)), (.pointer (some (Addr.mk b3 0 none)))] [.bool] fun r56 =>
 cond (!r56) (
 C.st 32 (Addr.mk b4 0 none) (.agg (Array.replicate 32 (.int .u8 0))) <|
 C.ld .agg 32 (Addr.mk b4 0 none) fun z31 =>
 C.ret (.tuple #[(.agg z31), (.int .i64 8)])
 ) (
 C.ld .agg 32 (Addr.mk b6 0 none) fun v59 =>
 C.st 32 (Addr.mk b4 0 none) (.agg v59) <|
 C.ld .agg 32 (Addr.mk b4 0 none) fun z33 =>
 C.ret (.tuple #[(.agg z33), (.int .i64 0)])
 )
 ) (
 C.ld .slice 1 (x0.add 1) fun v63 =>
 cond (decide ((v63.n : Int) ≥ 128)) (
 C.st 32 (Addr.mk b4 0 none) (.agg (Array.replicate 32 (.int .u8 0))) <|
 C.ld .agg 32 (Addr.mk b4 0 none) fun z35 =>
 C.ret (.tuple #[(.agg z35), (.int .i64 3)])
 ) (
 C.join (TL [.slice]) (embL [.slice]) (fun s41 => C.any fun _ =>
 C.sem (Instr.buildSlice ty_sl_impl_Blob 0 #[]) .slice fun y77 =>
 C.ld .slice 1 (x0.add 0) fun v81 =>
 C.sl v81.a v81.n v81.c 2 none (some s20) none fun y83 =>
 C.sem (Builtin.append_ #[ty_sl_impl_Blob, ty_sl_impl_Blob] ty_sl_impl_Blob #[(.slice y77.a y77.n y77.c), (.slice y83.a y83.n y83.c)]) .slice fun y84 =>
 C.sem (Builtin.append_ #[ty_sl_impl_Blob, ty_sl_impl_Blob] ty_sl_impl_Blob #[(.slice y84.a y84.n y84.c), (.slice s41.a s41.n s41.c)]) .slice fun y86 =>
 C.st 1 (x0.add 0) (.slice y86.a y86.n y86.c) <|
 C.join (TL [.slice]) (embL [.slice]) (fun s52 => C.any fun _ =>
 C.sem (Instr.buildSlice ty_sl_impl_Key 0 #[]) .slice fun y99 =>
 C.ld .slice 1 (x0.add 1) fun v103 =>
 C.sl v103.a v103.n v103.c 32 none (some s20) none fun y105 =>
 C.sem (Builtin.append_ #[ty_sl_impl_Key, ty_sl_impl_Key] ty_sl_impl_Key #[(.slice y99.a y99.n y99.c), (.slice y105.a y105.n y105.c)]) .slice fun y106 =>
 C.sem (Builtin.append_ #[ty_sl_impl_Key, ty_sl_impl_Key] ty_sl_impl_Key #[(.slice y106.a y106.n y106.c), (.slice s52.a s52.n s52.c)]) .slice fun y108 =>
 C.st 1 (x0.add 1) (.slice y108.a y108.n y108.c) <|
 C.ld .agg 32 (Addr.mk b6 0 none) fun v111 =>
 C.st 32 (Addr.mk b4 0 none) (.agg v111) <|
 C.ld .agg 32 (Addr.mk b4 0 none) fun z59 =>
 C.ret (.tuple #[(.agg z59), (.int .i64 0)])
 ) fun jt =>
 C.draw <|
 C.ld .agg 32 (Addr.mk b6 0 none) fun v89 =>
 C.ld .slice 1 (x0.add 1) fun v94 =>
 C.sl v94.a v94.n v94.c 32 (some s20) none none fun y96 =>
 C.sem (Instr.buildSlice ty_sl_impl_Key 1 #[(0, (.agg v89))]) .slice fun y90 =>
 C.chk [⟨5, 1, (x0.add 1), .slice, v94⟩] <|
 C.sem (Builtin.append_ #[ty_sl_impl_Key, ty_sl_impl_Key] ty_sl_impl_Key #[(.slice y90.a y90.n y90.c), (.slice y96.a y96.n y96.c)]) .slice fun y97 =>
 C.chk [⟨5, 1, (x0.add 1), .slice, v94⟩] <|
 jt [(.slice y97.a y97.n y97.c)]
 ) fun jt =>
 C.draw <|
 C.ld .agg 2 (Addr.mk b3 0 none) fun v67 =>
 C.ld .slice 1 (x0.add 0) fun v72 =>
 C.sl v72.a v72.n v72.c 2 (some s20) none none fun y74 =>
 C.sem (Instr.buildSlice ty_sl_impl_Blob 1 #[(0, (.agg v67))]) .slice fun y68 =>
 C.chk [⟨5, 1, (x0.add 0), .slice, v72⟩] <|
 C.sem (Builtin.append_ #[ty_sl_impl_Blob, ty_sl_impl_Blob] ty_sl_impl_Blob #[(.slice y68.a y68.n y68.c), (.slice y74.a y74.n y74.c)]) .slice fun y75 =>
 C.chk [⟨5, 1, (x0.add 0), .slice, v72⟩] <|
 jt [(.slice y75.a y75.n y75.c)]
 )
 )
 ) fun jt =>
 C.draw <|
 C.ld .slice 1 (x0.add 1) fun v36 =>
 cond (decide (s20 < (v36.n : Int))) (
 C.ld .slice 1 (x0.add 1) fun v43 =>
 C.ix v43.a v43.n 32 s20 fun p45 =>
 C.ld .agg 32 p45 fun v46 =>
 C.ld .agg 32 (Addr.mk b6 0 none) fun v47 =>
 C.pur (eqB .eql ty_impl_Key (.tmp 46) (.tmp 47) (.agg v46) (.agg v47)) .bool fun y48 =>
 jt [(.bool y48)]
 ) (
 jt [(.bool false)]
 )
 ) fun jt =>
 C.loop (TL [(.int .i64)]) (embL [(.int .i64)]) [(.int .i64 0)] fun s5 ct5 => C.any fun _ =>
 C.draw <|
 C.ld .slice 1 (x0.add 1) fun v15 =>
 cond (decide (s5 < (v15.n : Int))) (
 C.all [
 (C.ld .slice 1 (x0.add 1) fun v22 =>
 C.chk [⟨4, 1, (x0.add 1), .slice, v15⟩] <|
 C.ix v22.a v22.n 32 s5 fun p24 =>
 C.all [
 (C.ld .agg 32 p24 fun v25 =>
 C.chk [⟨4, 1, (x0.add 1), .slice, v15⟩] <|
 C.ld .agg 32 (Addr.mk b6 0 none) fun v26 =>
 C.chk [⟨4, 1, (x0.add 1), .slice, v15⟩] <|
 C.call n_spec_l01Compare [(.agg v25), (.agg v26)] [(.int .i64)] fun r27 =>
 C.chk [⟨4, 1, (x0.add 1), .slice, v15⟩] <|
 cond (decide (r27 < 0)) (
 ct5 [(.int .i64 (IntKind.wrap .i64 (s5 + 1)))]
 ) (
 jt [(.int .i64 s5)]
 )),
 (C.ld .agg 32 (Addr.mk b6 0 none) fun v26 =>
 C.chk [⟨4, 1, (x0.add 1), .slice, v15⟩] <|
 C.ld .agg 32 p24 fun v25 =>
 C.chk [⟨4, 1, (x0.add 1), .slice, v15⟩] <|
 C.call n_spec_l01Compare [(.agg v25), (.agg v26)] [(.int .i64)] fun r27 =>
 C.chk [⟨4, 1, (x0.add 1), .slice, v15⟩] <|
 cond (decide (r27 < 0)) (
 ct5 [(.int .i64 (IntKind.wrap .i64 (s5 + 1)))]
 ) (
 jt [(.int .i64 s5)]
 ))]),
 (C.ld .agg 32 (Addr.mk b6 0 none) fun v26 =>
 C.chk [⟨4, 1, (x0.add 1), .slice, v15⟩] <|
 C.ld .slice 1 (x0.add 1) fun v22 =>
 C.chk [⟨4, 1, (x0.add 1), .slice, v15⟩] <|
 C.ix v22.a v22.n 32 s5 fun p24 =>
 C.ld .agg 32 p24 fun v25 =>
 C.chk [⟨4, 1, (x0.add 1), .slice, v15⟩] <|
 C.call n_spec_l01Compare [(.agg v25), (.agg v26)] [(.int .i64)] fun r27 =>
 C.chk [⟨4, 1, (x0.add 1), .slice, v15⟩] <|
 cond (decide (r27 < 0)) (
 ct5 [(.int .i64 (IntKind.wrap .i64 (s5 + 1)))]
 ) (
 jt [(.int .i64 s5)]
 ))]
 ) (
 C.all [
 (C.chk [⟨4, 1, (x0.add 1), .slice, v15⟩] <|
 C.all [
 (C.chk [⟨4, 1, (x0.add 1), .slice, v15⟩] <|
 C.chk [⟨4, 1, (x0.add 1), .slice, v15⟩] <|
 C.chk [⟨4, 1, (x0.add 1), .slice, v15⟩] <|
 jt [(.int .i64 s5)]),
 (C.chk [⟨4, 1, (x0.add 1), .slice, v15⟩] <|
 C.chk [⟨4, 1, (x0.add 1), .slice, v15⟩] <|
 C.chk [⟨4, 1, (x0.add 1), .slice, v15⟩] <|
 jt [(.int .i64 s5)])]),
 (C.chk [⟨4, 1, (x0.add 1), .slice, v15⟩] <|
 C.chk [⟨4, 1, (x0.add 1), .slice, v15⟩] <|
 C.chk [⟨4, 1, (x0.add 1), .slice, v15⟩] <|
 C.chk [⟨4, 1, (x0.add 1), .slice, v15⟩] <|
 jt [(.int .i64 s5)])]
 )
theorem ptr_spec_l05Store_put_eq (C : Comb) (x0 : Addr) (x1 : Array Value) : fT C Tryz.prog ⟨[(3, [(7, (.int .i64))])], [(11, [(7, (.int .i64))]), (16, [(49, .bool)]), (34, [(8, .slice)]), (40, [(9, .slice)])], [3, 11, 13], []⟩ n_ptr_spec_l05Store_put [(.pointer (some x0)), (.agg x1)] = ptr_spec_l05Store_put C x0 x1 := by kernel_rfl
theorem ptr_spec_l05Store_put_calls {R : Value → World → Prop} {w : World} (x0 : Addr) (x1 : Array Value) (h : (ptr_spec_l05Store_put (real Tryz.prog R) x0 x1 : World → Prop) w) :
    Calls Tryz.prog n_ptr_spec_l05Store_put [(.pointer (some x0)), (.agg x1)].toArray w fun e w' => ∃ v, e = .returned v ∧ R v w' := fT_sound mixed ⟨[(3, [(7, (.int .i64))])], [(11, [(7, (.int .i64))]), (16, [(49, .bool)]), (34, [(8, .slice)]), (40, [(9, .slice)])], [3, 11, 13], []⟩ (by rw [ptr_spec_l05Store_put_eq]; exact h)

def spec_l04Bytes (C : Comb) (x0 : Addr) : C.St :=
 C.sem (Instr.buildSlice ty_sl_uint8 0 #[]) .slice fun y6 =>
 C.loop (TL [.slice, (.int .i64)]) (embL [.slice, (.int .i64)]) [(.slice y6.a y6.n y6.c), (.int .i64 0)] fun s2 ct2 => C.any fun _ =>
 cond (decide (s2.2 < 32)) (
 C.ix (some (x0.add 0)) 32 1 s2.2 fun p16 =>
 C.ld (.int .u8) 1 p16 fun v17 =>
 C.sem (Instr.buildSlice ty_sl_uint8 1 #[(0, (.int .u8 v17))]) .slice fun y18 =>
 C.sem (Builtin.append_ #[ty_sl_uint8, ty_sl_uint8] ty_sl_uint8 #[(.slice s2.1.a s2.1.n s2.1.c), (.slice y18.a y18.n y18.c)]) .slice fun y19 =>
 ct2 [(.slice y19.a y19.n y19.c), (.int .i64 (IntKind.wrap .i64 (s2.2 + 1)))]
 ) (
 C.loop (TL [.slice, (.int .i64)]) (embL [.slice, (.int .i64)]) [(.slice s2.1.a s2.1.n s2.1.c), (.int .i64 0)] fun s7 ct7 => C.any fun _ =>
 cond (decide (s7.2 < 32)) (
 C.ix (some (x0.add 32)) 32 1 s7.2 fun p29 =>
 C.ld (.int .u8) 1 p29 fun v30 =>
 C.sem (Instr.buildSlice ty_sl_uint8 1 #[(0, (.int .u8 v30))]) .slice fun y31 =>
 C.sem (Builtin.append_ #[ty_sl_uint8, ty_sl_uint8] ty_sl_uint8 #[(.slice s7.1.a s7.1.n s7.1.c), (.slice y31.a y31.n y31.c)]) .slice fun y32 =>
 ct7 [(.slice y32.a y32.n y32.c), (.int .i64 (IntKind.wrap .i64 (s7.2 + 1)))]
 ) (
 C.ld .str 1 ((x0.add 64).add 0) fun v38 =>
 C.sem (Instr.buildSlice ty_sl_uint8 1 #[(0, (.int .u8 (IntKind.wrap .u8 ((v38.size : Int)))))]) .slice fun y41 =>
 C.sem (Builtin.append_ #[ty_sl_uint8, ty_sl_uint8] ty_sl_uint8 #[(.slice s7.1.a s7.1.n s7.1.c), (.slice y41.a y41.n y41.c)]) .slice fun y42 =>
 C.ld .str 1 ((x0.add 64).add 0) fun v48 =>
 C.sem (convert ty_string ty_sl_uint8 (.string v48)) .slice fun y49 =>
 C.sem (Builtin.append_ #[ty_sl_uint8, ty_sl_uint8] ty_sl_uint8 #[(.slice y42.a y42.n y42.c), (.slice y49.a y49.n y49.c)]) .slice fun y50 =>
 C.ld .str 1 ((x0.add 64).add 1) fun v56 =>
 C.sem (convert ty_string ty_sl_uint8 (.string v56)) .slice fun y57 =>
 C.sem (Builtin.append_ #[ty_sl_uint8, ty_sl_uint8] ty_sl_uint8 #[(.slice y50.a y50.n y50.c), (.slice y57.a y57.n y57.c)]) .slice fun y58 =>
 C.ret (.slice y58.a y58.n y58.c)
 )
 )
theorem spec_l04Bytes_eq (C : Comb) (x0 : Addr) : fT C Tryz.prog ⟨[(3, [(3, .slice), (4, (.int .i64))]), (7, [(3, .slice), (5, (.int .i64))])], [], [], []⟩ n_spec_l04Bytes [(.pointer (some x0))] = spec_l04Bytes C x0 := by kernel_rfl
theorem spec_l04Bytes_calls {R : Value → World → Prop} {w : World} (x0 : Addr) (h : (spec_l04Bytes (real Tryz.prog R) x0 : World → Prop) w) :
    Calls Tryz.prog n_spec_l04Bytes [(.pointer (some x0))].toArray w fun e w' => ∃ v, e = .returned v ∧ R v w' := fT_sound mixed ⟨[(3, [(3, .slice), (4, (.int .i64))]), (7, [(3, .slice), (5, (.int .i64))])], [], [], []⟩ (by rw [spec_l04Bytes_eq]; exact h)

def spec_l05Made (C : Comb) (x0 : Addr) (x1 : Array Value) (x2 : Int) : C.St :=
 C.new ty_impl_Key (.agg x1) fun b4 =>
 C.new ty_impl_Store (.agg (#[(.slice none 0 0)])) fun b6 =>
 C.new ty_impl_Key (.agg (Array.replicate 32 (.int .u8 0))) fun b7 =>
 cond (x2 != 0) (
 C.pur (Instr.build ty_impl_Store #[]) .agg fun y11 =>
 C.st 1 (Addr.mk b6 0 none) (.agg y11) <|
 C.st 32 (Addr.mk b7 0 none) (.agg (Array.replicate 32 (.int .u8 0))) <|
 C.ld .agg 1 (Addr.mk b6 0 none) fun z5 =>
 C.ld .agg 32 (Addr.mk b7 0 none) fun z6 =>
 C.ret (.tuple #[(.agg z5), (.agg z6), (.int .i64 x2)])
 ) (
 C.draw <|
 C.ld .agg 32 (Addr.mk b4 0 none) fun v16 =>
 C.call n_ptr_spec_l05Store_store [(.pointer (some x0))] [.agg] fun r15 =>
 C.chk [⟨2, 32, (Addr.mk b4 0 none), .agg, v16⟩] <|
 C.st 1 (Addr.mk b6 0 none) (.agg r15) <|
 C.chk [⟨2, 32, (Addr.mk b4 0 none), .agg, v16⟩] <|
 C.st 32 (Addr.mk b7 0 none) (.agg v16) <|
 C.ld .agg 1 (Addr.mk b6 0 none) fun z9 =>
 C.ld .agg 32 (Addr.mk b7 0 none) fun z10 =>
 C.ret (.tuple #[(.agg z9), (.agg z10), (.int .i64 0)])
 )
theorem spec_l05Made_eq (C : Comb) (x0 : Addr) (x1 : Array Value) (x2 : Int) : fT C Tryz.prog ⟨[], [], [3], []⟩ n_spec_l05Made [(.pointer (some x0)), (.agg x1), (.int .i64 x2)] = spec_l05Made C x0 x1 x2 := by kernel_rfl
theorem spec_l05Made_calls {R : Value → World → Prop} {w : World} (x0 : Addr) (x1 : Array Value) (x2 : Int) (h : (spec_l05Made (real Tryz.prog R) x0 x1 x2 : World → Prop) w) :
    Calls Tryz.prog n_spec_l05Made [(.pointer (some x0)), (.agg x1), (.int .i64 x2)].toArray w fun e w' => ∃ v, e = .returned v ∧ R v w' := fT_sound mixed ⟨[], [], [3], []⟩ (by rw [spec_l05Made_eq]; exact h)

def spec_l05DrawChunks (C : Comb) (x0 : Addr) (x1 : Int) : C.St :=
 C.sem (Instr.buildSlice ty_sl_sl_uint8 0 #[]) .slice fun y7 =>
 C.call n_ptr_spec_l00Src_pick [(.pointer (some x0)), (.int .i64 (IntKind.wrap .i64 (x1 + 1)))] [(.int .i64)] fun r11 =>
 C.loop (TL [.slice, (.int .i64)]) (embL [.slice, (.int .i64)]) [(.slice y7.a y7.n y7.c), (.int .i64 r11)] fun s3 ct3 => C.any fun _ =>
 cond (decide (s3.2 > 0)) (
 C.sem (Instr.buildSlice ty_sl_string 6 #[(0, (.string (⟨#[]⟩ : ByteArray))), (1, (.string (⟨#[97]⟩ : ByteArray))), (2, (.string (⟨#[98]⟩ : ByteArray))), (3, (.string (⟨#[99, 104, 117, 110, 107]⟩ : ByteArray))), (4, (.string (⟨#[97, 110, 111, 116, 104, 101, 114, 32, 99, 104, 117, 110, 107]⟩ : ByteArray))), (5, (.string (⟨#[97, 97]⟩ : ByteArray)))]) .slice fun y18 =>
 C.call n_ptr_spec_l00Src_text [(.pointer (some x0)), (.slice y18.a y18.n y18.c)] [.str] fun r19 =>
 C.sem (convert ty_string ty_sl_uint8 (.string r19)) .slice fun y20 =>
 C.sem (Instr.buildSlice ty_sl_sl_uint8 1 #[(0, (.slice y20.a y20.n y20.c))]) .slice fun y21 =>
 C.sem (Builtin.append_ #[ty_sl_sl_uint8, ty_sl_sl_uint8] ty_sl_sl_uint8 #[(.slice s3.1.a s3.1.n s3.1.c), (.slice y21.a y21.n y21.c)]) .slice fun y22 =>
 ct3 [(.slice y22.a y22.n y22.c), (.int .i64 (IntKind.wrap .i64 (s3.2 - 1)))]
 ) (
 C.ret (.slice s3.1.a s3.1.n s3.1.c)
 )
theorem spec_l05DrawChunks_eq (C : Comb) (x0 : Addr) (x1 : Int) : fT C Tryz.prog ⟨[(3, [(5, .slice), (6, (.int .i64))])], [], [], []⟩ n_spec_l05DrawChunks [(.pointer (some x0)), (.int .i64 x1)] = spec_l05DrawChunks C x0 x1 := by kernel_rfl
theorem spec_l05DrawChunks_calls {R : Value → World → Prop} {w : World} (x0 : Addr) (x1 : Int) (h : (spec_l05DrawChunks (real Tryz.prog R) x0 x1 : World → Prop) w) :
    Calls Tryz.prog n_spec_l05DrawChunks [(.pointer (some x0)), (.int .i64 x1)].toArray w fun e w' => ∃ v, e = .returned v ∧ R v w' := fT_sound mixed ⟨[(3, [(5, .slice), (6, (.int .i64))])], [], [], []⟩ (by rw [spec_l05DrawChunks_eq]; exact h)

def impl_Blob_key (C : Comb) (x0 : Array Value) : C.St :=
 C.new ty_impl_Blob (.agg x0) fun b1 =>
 C.new ty_impl_Key (.agg (Array.replicate 32 (.int .u8 0))) fun b2 =>
 C.ld (.int .u8) 1 ((Addr.mk b1 0 none).add 0) fun v4 =>
 C.ld .slice 1 ((Addr.mk b1 0 none).add 1) fun v6 =>
 C.call n_impl_hash [(.int .u8 v4), (.slice v6.a v6.n v6.c)] [.agg] fun r7 =>
 C.st 32 (Addr.mk b2 0 none) (.agg r7) <|
 C.ld .agg 32 (Addr.mk b2 0 none) fun z6 =>
 C.ret (.agg z6)
theorem impl_Blob_key_eq (C : Comb) (x0 : Array Value) : fT C Tryz.prog ⟨[], [], [], []⟩ n_impl_Blob_key [(.agg x0)] = impl_Blob_key C x0 := by kernel_rfl
theorem impl_Blob_key_calls {R : Value → World → Prop} {w : World} (x0 : Array Value) (h : (impl_Blob_key (real Tryz.prog R) x0 : World → Prop) w) :
    Calls Tryz.prog n_impl_Blob_key [(.agg x0)].toArray w fun e w' => ∃ v, e = .returned v ∧ R v w' := fT_sound mixed ⟨[], [], [], []⟩ (by rw [impl_Blob_key_eq]; exact h)

def ptr_spec_l05Store_list (C : Comb) (x0 : Addr) (x1 : Sl) : C.St :=
 C.new ty_impl_Key (.agg (Array.replicate 32 (.int .u8 0))) fun b4 =>
 cond ((x1.n : Int) == 1) (
 C.ix x1.a x1.n 32 0 fun p18 =>
 C.ld .agg 32 p18 fun v19 =>
 C.st 32 (Addr.mk b4 0 none) (.agg v19) <|
 C.ld .agg 32 (Addr.mk b4 0 none) fun z4 =>
 C.ret (.tuple #[(.agg z4), (.int .i64 0)])
 ) (
 C.call n_spec_l03Half [(.int .i64 (x1.n : Int))] [(.int .i64)] fun r22 =>
 C.sl x1.a x1.n x1.c 32 none (some r22) none fun y27 =>
 C.call n_ptr_spec_l05Store_list [(.pointer (some x0)), (.slice y27.a y27.n y27.c)] [.agg, (.int .i64)] fun r28 =>
 C.new ty_impl_Key (.agg (Array.replicate 32 (.int .u8 0))) fun b7 =>
 C.st 32 (Addr.mk b7 0 none) (.agg r28.1) <|
 cond (r28.2 != 0) (
 C.st 32 (Addr.mk b4 0 none) (.agg (Array.replicate 32 (.int .u8 0))) <|
 C.ld .agg 32 (Addr.mk b4 0 none) fun z9 =>
 C.ret (.tuple #[(.agg z9), (.int .i64 r28.2)])
 ) (
 C.sl x1.a x1.n x1.c 32 (some r22) none none fun y39 =>
 C.call n_ptr_spec_l05Store_list [(.pointer (some x0)), (.slice y39.a y39.n y39.c)] [.agg, (.int .i64)] fun r40 =>
 C.new ty_impl_Key (.agg (Array.replicate 32 (.int .u8 0))) fun b9 =>
 C.st 32 (Addr.mk b9 0 none) (.agg r40.1) <|
 cond (r40.2 != 0) (
 C.st 32 (Addr.mk b4 0 none) (.agg (Array.replicate 32 (.int .u8 0))) <|
 C.ld .agg 32 (Addr.mk b4 0 none) fun z13 =>
 C.ret (.tuple #[(.agg z13), (.int .i64 r40.2)])
 ) (
 C.sem (Instr.buildSlice ty_sl_uint8 0 #[]) .slice fun y47 =>
 C.loop (TL [.slice, (.int .i64)]) (embL [.slice, (.int .i64)]) [(.slice y47.a y47.n y47.c), (.int .i64 0)] fun s15 ct15 => C.any fun _ =>
 cond (decide (s15.2 < 32)) (
 C.ix (some (Addr.mk b7 0 none)) 32 1 s15.2 fun p54 =>
 C.ld (.int .u8) 1 p54 fun v55 =>
 C.sem (Instr.buildSlice ty_sl_uint8 1 #[(0, (.int .u8 v55))]) .slice fun y56 =>
 C.sem (Builtin.append_ #[ty_sl_uint8, ty_sl_uint8] ty_sl_uint8 #[(.slice s15.1.a s15.1.n s15.1.c), (.slice y56.a y56.n y56.c)]) .slice fun y57 =>
 ct15 [(.slice y57.a y57.n y57.c), (.int .i64 (IntKind.wrap .i64 (s15.2 + 1)))]
 ) (
 C.loop (TL [.slice, (.int .i64)]) (embL [.slice, (.int .i64)]) [(.slice s15.1.a s15.1.n s15.1.c), (.int .i64 0)] fun s20 ct20 => C.any fun _ =>
 cond (decide (s20.2 < 32)) (
 C.ix (some (Addr.mk b9 0 none)) 32 1 s20.2 fun p64 =>
 C.ld (.int .u8) 1 p64 fun v65 =>
 C.sem (Instr.buildSlice ty_sl_uint8 1 #[(0, (.int .u8 v65))]) .slice fun y66 =>
 C.sem (Builtin.append_ #[ty_sl_uint8, ty_sl_uint8] ty_sl_uint8 #[(.slice s20.1.a s20.1.n s20.1.c), (.slice y66.a y66.n y66.c)]) .slice fun y67 =>
 ct20 [(.slice y67.a y67.n y67.c), (.int .i64 (IntKind.wrap .i64 (s20.2 + 1)))]
 ) (
 C.pur (Instr.build ty_impl_Blob #[(0, (.int .u8 2)), (1, (.slice s20.1.a s20.1.n s20.1.c))]) .agg fun y70 =>
 C.call n_ptr_spec_l05Store_put [(.pointer (some x0)), (.agg y70)] [.agg, (.int .i64)] fun r71 =>
 C.st 32 (Addr.mk b4 0 none) (.agg r71.1) <|
 C.ld .agg 32 (Addr.mk b4 0 none) fun z27 =>
 C.ret (.tuple #[(.agg z27), (.int .i64 r71.2)])
 )
 )
 )
 )
 )
theorem ptr_spec_l05Store_list_eq (C : Comb) (x0 : Addr) (x1 : Sl) : fT C Tryz.prog ⟨[(12, [(11, .slice), (12, (.int .i64))]), (16, [(11, .slice), (13, (.int .i64))])], [], [], []⟩ n_ptr_spec_l05Store_list [(.pointer (some x0)), (.slice x1.a x1.n x1.c)] = ptr_spec_l05Store_list C x0 x1 := by kernel_rfl
theorem ptr_spec_l05Store_list_calls {R : Value → World → Prop} {w : World} (x0 : Addr) (x1 : Sl) (h : (ptr_spec_l05Store_list (real Tryz.prog R) x0 x1 : World → Prop) w) :
    Calls Tryz.prog n_ptr_spec_l05Store_list [(.pointer (some x0)), (.slice x1.a x1.n x1.c)].toArray w fun e w' => ∃ v, e = .returned v ∧ R v w' := fT_sound mixed ⟨[(12, [(11, .slice), (12, (.int .i64))]), (16, [(11, .slice), (13, (.int .i64))])], [], [], []⟩ (by rw [ptr_spec_l05Store_list_eq]; exact h)

def spec_PutBlob (C : Comb) (x0 : Array Value) (x1 : Array Value) : C.St :=
 C.new ty_impl_Store (.agg x0) fun b2 =>
 C.new ty_impl_Blob (.agg x1) fun b3 =>
 C.new ty_impl_Store (.agg (#[(.slice none 0 0)])) fun b4 =>
 C.new ty_impl_Key (.agg (Array.replicate 32 (.int .u8 0))) fun b5 =>
 C.call n_spec_l05Open [(.pointer (some (Addr.mk b2 0 none)))] [.optr, .bool] fun r12 =>
 C.join (TL []) (embL []) (fun s13 => C.any fun _ =>
 C.ld .agg 2 (Addr.mk b3 0 none) fun v25 =>
 C.call n_ptr_spec_l05Store_put [(.pointer r12.1), (.agg v25)] [.agg, (.int .i64)] fun r26 =>
 C.new ty_impl_Key (.agg (Array.replicate 32 (.int .u8 0))) fun b9 =>
 C.st 32 (Addr.mk b9 0 none) (.agg r26.1) <|
 C.ld .agg 32 (Addr.mk b9 0 none) fun v30 =>
 C.call n_spec_l05Made [(.pointer r12.1), (.agg v30), (.int .i64 r26.2)] [.agg, .agg, (.int .i64)] fun r32 =>
 C.st 1 (Addr.mk b4 0 none) (.agg r32.1) <|
 C.st 32 (Addr.mk b5 0 none) (.agg r32.2.1) <|
 C.ld .agg 1 (Addr.mk b4 0 none) fun z19 =>
 C.ld .agg 32 (Addr.mk b5 0 none) fun z20 =>
 C.ret (.tuple #[(.agg z19), (.agg z20), (.int .i64 r32.2.2)])
 ) fun jt =>
 cond (!r12.2) (
 C.pur (Instr.build ty_impl_Store #[]) .agg fun y21 =>
 C.st 1 (Addr.mk b4 0 none) (.agg y21) <|
 C.st 32 (Addr.mk b5 0 none) (.agg (Array.replicate 32 (.int .u8 0))) <|
 C.ld .agg 1 (Addr.mk b4 0 none) fun z7 =>
 C.ld .agg 32 (Addr.mk b5 0 none) fun z8 =>
 C.ret (.tuple #[(.agg z7), (.agg z8), (.int .i64 1)])
 ) (
 C.call n_spec_l05Blob [(.pointer (some (Addr.mk b3 0 none)))] [.bool] fun r18 =>
 cond (!r18) (
 C.pur (Instr.build ty_impl_Store #[]) .agg fun y21 =>
 C.st 1 (Addr.mk b4 0 none) (.agg y21) <|
 C.st 32 (Addr.mk b5 0 none) (.agg (Array.replicate 32 (.int .u8 0))) <|
 C.ld .agg 1 (Addr.mk b4 0 none) fun z11 =>
 C.ld .agg 32 (Addr.mk b5 0 none) fun z12 =>
 C.ret (.tuple #[(.agg z11), (.agg z12), (.int .i64 1)])
 ) (
 jt []
 )
 )
theorem spec_PutBlob_eq (C : Comb) (x0 : Array Value) (x1 : Array Value) : fT C Tryz.prog ⟨[], [(60, [])], [], []⟩ n_spec_PutBlob [(.agg x0), (.agg x1)] = spec_PutBlob C x0 x1 := by kernel_rfl
theorem spec_PutBlob_calls {R : Value → World → Prop} {w : World} (x0 : Array Value) (x1 : Array Value) (h : (spec_PutBlob (real Tryz.prog R) x0 x1 : World → Prop) w) :
    Calls Tryz.prog n_spec_PutBlob [(.agg x0), (.agg x1)].toArray w fun e w' => ∃ v, e = .returned v ∧ R v w' := fT_sound mixed ⟨[], [(60, [])], [], []⟩ (by rw [spec_PutBlob_eq]; exact h)

def spec_l06Bytes (C : Comb) (x0 : Addr) (x1 : Int) : C.St :=
 C.sem (Instr.buildSlice ty_sl_uint8 0 #[]) .slice fun y7 =>
 C.call n_ptr_spec_l00Src_pick [(.pointer (some x0)), (.int .i64 (IntKind.wrap .i64 (x1 + 1)))] [(.int .i64)] fun r11 =>
 C.loop (TL [.slice, (.int .i64)]) (embL [.slice, (.int .i64)]) [(.slice y7.a y7.n y7.c), (.int .i64 r11)] fun s3 ct3 => C.any fun _ =>
 cond (decide (s3.2 > 0)) (
 C.sem (Instr.buildSlice ty_sl_string 5 #[(0, (.string (⟨#[97]⟩ : ByteArray))), (1, (.string (⟨#[48, 49, 50, 51, 52, 53, 54, 55, 56, 57]⟩ : ByteArray))), (2, (.string (⟨#[115, 111, 109, 101, 32, 119, 111, 114, 100, 115, 32, 116, 104, 97, 116, 32, 99, 111, 109, 101, 32, 97, 103, 97, 105, 110]⟩ : ByteArray))), (3, (.string (⟨#[120, 121]⟩ : ByteArray))), (4, (.string (⟨#[97, 110, 111, 116, 104, 101, 114, 32, 112, 97, 114, 116, 32, 111, 102, 32, 116, 104, 101, 32, 116, 101, 120, 116]⟩ : ByteArray)))]) .slice fun y18 =>
 C.call n_ptr_spec_l00Src_text [(.pointer (some x0)), (.slice y18.a y18.n y18.c)] [.str] fun r19 =>
 C.sem (convert ty_string ty_sl_uint8 (.string r19)) .slice fun y20 =>
 C.sem (Builtin.append_ #[ty_sl_uint8, ty_sl_uint8] ty_sl_uint8 #[(.slice s3.1.a s3.1.n s3.1.c), (.slice y20.a y20.n y20.c)]) .slice fun y21 =>
 ct3 [(.slice y21.a y21.n y21.c), (.int .i64 (IntKind.wrap .i64 (s3.2 - 1)))]
 ) (
 C.ret (.slice s3.1.a s3.1.n s3.1.c)
 )
theorem spec_l06Bytes_eq (C : Comb) (x0 : Addr) (x1 : Int) : fT C Tryz.prog ⟨[(3, [(5, .slice), (6, (.int .i64))])], [], [], []⟩ n_spec_l06Bytes [(.pointer (some x0)), (.int .i64 x1)] = spec_l06Bytes C x0 x1 := by kernel_rfl
theorem spec_l06Bytes_calls {R : Value → World → Prop} {w : World} (x0 : Addr) (x1 : Int) (h : (spec_l06Bytes (real Tryz.prog R) x0 x1 : World → Prop) w) :
    Calls Tryz.prog n_spec_l06Bytes [(.pointer (some x0)), (.int .i64 x1)].toArray w fun e w' => ∃ v, e = .returned v ∧ R v w' := fT_sound mixed ⟨[(3, [(5, .slice), (6, (.int .i64))])], [], [], []⟩ (by rw [spec_l06Bytes_eq]; exact h)

def spec_l05Blob (C : Comb) (x0 : Addr) : C.St :=
 C.ld .slice 1 (x0.add 1) fun v6 =>
 C.ret (.bool (decide ((v6.n : Int) ≤ 1024)))
theorem spec_l05Blob_eq (C : Comb) (x0 : Addr) : fT C Tryz.prog ⟨[], [], [], []⟩ n_spec_l05Blob [(.pointer (some x0))] = spec_l05Blob C x0 := by kernel_rfl
theorem spec_l05Blob_calls {R : Value → World → Prop} {w : World} (x0 : Addr) (h : (spec_l05Blob (real Tryz.prog R) x0 : World → Prop) w) :
    Calls Tryz.prog n_spec_l05Blob [(.pointer (some x0))].toArray w fun e w' => ∃ v, e = .returned v ∧ R v w' := fT_sound mixed ⟨[], [], [], []⟩ (by rw [spec_l05Blob_eq]; exact h)

def spec_l05Key (C : Comb) (x0 : Addr) : C.St :=
 C.new ty_impl_Key (.agg (Array.replicate 32 (.int .u8 0))) fun b2 =>
 C.draw <|
 C.ld (.int .u8) 1 (x0.add 0) fun v6 =>
 C.ld .slice 1 (x0.add 1) fun v10 =>
 C.call n_spec_l01Hash [(.int .u8 v6), (.slice v10.a v10.n v10.c)] [.agg] fun r11 =>
 C.st 32 (Addr.mk b2 0 none) (.agg r11) <|
 C.ld .agg 32 (Addr.mk b2 0 none) fun z5 =>
 C.ret (.agg z5)
theorem spec_l05Key_eq (C : Comb) (x0 : Addr) : fT C Tryz.prog ⟨[], [], [1], []⟩ n_spec_l05Key [(.pointer (some x0))] = spec_l05Key C x0 := by kernel_rfl
theorem spec_l05Key_calls {R : Value → World → Prop} {w : World} (x0 : Addr) (h : (spec_l05Key (real Tryz.prog R) x0 : World → Prop) w) :
    Calls Tryz.prog n_spec_l05Key [(.pointer (some x0))].toArray w fun e w' => ∃ v, e = .returned v ∧ R v w' := fT_sound mixed ⟨[], [], [1], []⟩ (by rw [spec_l05Key_eq]; exact h)

def spec_l06Delta (C : Comb) (x0 : Sl) (x1 : Sl) : C.St :=
 C.sem (Instr.buildSlice ty_sl_uint8 0 #[]) .slice fun y13 =>
 C.sem (Instr.buildSlice ty_sl_uint8 0 #[]) .slice fun y14 =>
 C.loop (TL [.slice, .slice, (.int .i64)]) (embL [.slice, .slice, (.int .i64)]) [(.slice y13.a y13.n y13.c), (.slice y14.a y14.n y14.c), (.int .i64 0)] fun s3 ct3 => C.any fun _ =>
 cond (decide (s3.2.2 < (x1.n : Int))) (
 C.loop (TL [(.int .i64), (.int .i64), (.int .i64)]) (embL [(.int .i64), (.int .i64), (.int .i64)]) [(.int .i64 0), (.int .i64 0), (.int .i64 0)] fun s4 ct4 => C.any fun _ =>
 cond (decide (s4.2.2 < (x0.n : Int))) (
 C.join (TL [(.int .i64)]) (embL [(.int .i64)]) (fun s8 => C.any fun _ =>
 cond (decide (s8 > s4.1)) (
 ct4 [(.int .i64 s8), (.int .i64 s4.2.2), (.int .i64 (IntKind.wrap .i64 (s4.2.2 + 1)))]
 ) (
 ct4 [(.int .i64 s4.1), (.int .i64 s4.2.1), (.int .i64 (IntKind.wrap .i64 (s4.2.2 + 1)))]
 )
 ) fun jt =>
 C.draw <|
 C.sl x0.a x0.n x0.c 1 (some s4.2.2) none none fun y27 =>
 C.sl x1.a x1.n x1.c 1 (some s3.2.2) none none fun y30 =>
 C.call n_spec_l06Match [(.slice y27.a y27.n y27.c), (.slice y30.a y30.n y30.c)] [(.int .i64)] fun r31 =>
 jt [(.int .i64 r31)]
 ) (
 cond (decide (s4.1 < 8)) (
 C.ix x1.a x1.n 1 s3.2.2 fun p42 =>
 C.ld (.int .u8) 1 p42 fun v43 =>
 C.sem (Instr.buildSlice ty_sl_uint8 1 #[(0, (.int .u8 v43))]) .slice fun y44 =>
 C.sem (Builtin.append_ #[ty_sl_uint8, ty_sl_uint8] ty_sl_uint8 #[(.slice s3.2.1.a s3.2.1.n s3.2.1.c), (.slice y44.a y44.n y44.c)]) .slice fun y45 =>
 ct3 [(.slice s3.1.a s3.1.n s3.1.c), (.slice y45.a y45.n y45.c), (.int .i64 (IntKind.wrap .i64 (s3.2.2 + 1)))]
 ) (
 C.call n_spec_l06Plain [(.slice s3.1.a s3.1.n s3.1.c), (.slice s3.2.1.a s3.2.1.n s3.2.1.c)] [.slice] fun r50 =>
 C.sem (Instr.buildSlice ty_sl_uint8 0 #[]) .slice fun y51 =>
 C.sem (Instr.buildSlice ty_sl_uint8 4 #[(0, (.int .u8 1)), (1, (.int .u8 (IntKind.wrap .u8 ((Int.tmod s4.2.1 256))))), (2, (.int .u8 (IntKind.wrap .u8 ((IntKind.wrap .i64 (Int.tdiv s4.2.1 256)))))), (3, (.int .u8 (IntKind.wrap .u8 (s4.1))))]) .slice fun y61 =>
 C.sem (Builtin.append_ #[ty_sl_uint8, ty_sl_uint8] ty_sl_uint8 #[(.slice r50.a r50.n r50.c), (.slice y61.a y61.n y61.c)]) .slice fun y62 =>
 ct3 [(.slice y62.a y62.n y62.c), (.slice y51.a y51.n y51.c), (.int .i64 (IntKind.wrap .i64 (s3.2.2 + s4.1)))]
 )
 )
 ) (
 C.call n_spec_l06Plain [(.slice s3.1.a s3.1.n s3.1.c), (.slice s3.2.1.a s3.2.1.n s3.2.1.c)] [.slice] fun r68 =>
 C.ret (.tuple #[(.slice r68.a r68.n r68.c), (.bool (decide ((r68.n : Int) ≤ 1024)))])
 )
theorem spec_l06Delta_eq (C : Comb) (x0 : Sl) (x1 : Sl) : fT C Tryz.prog ⟨[(4, [(6, .slice), (7, .slice), (8, (.int .i64))]), (8, [(9, (.int .i64)), (10, (.int .i64)), (11, (.int .i64))])], [(31, [(12, (.int .i64))])], [10], []⟩ n_spec_l06Delta [(.slice x0.a x0.n x0.c), (.slice x1.a x1.n x1.c)] = spec_l06Delta C x0 x1 := by kernel_rfl
theorem spec_l06Delta_calls {R : Value → World → Prop} {w : World} (x0 : Sl) (x1 : Sl) (h : (spec_l06Delta (real Tryz.prog R) x0 x1 : World → Prop) w) :
    Calls Tryz.prog n_spec_l06Delta [(.slice x0.a x0.n x0.c), (.slice x1.a x1.n x1.c)].toArray w fun e w' => ∃ v, e = .returned v ∧ R v w' := fT_sound mixed ⟨[(4, [(6, .slice), (7, .slice), (8, (.int .i64))]), (8, [(9, (.int .i64)), (10, (.int .i64)), (11, (.int .i64))])], [(31, [(12, (.int .i64))])], [10], []⟩ (by rw [spec_l06Delta_eq]; exact h)

def ptr_spec_l00Src_next (C : Comb) (x0 : Addr) : C.St :=
 C.join (TL [(.int .i64)]) (embL [(.int .i64)]) (fun s7 => C.any fun _ =>
 C.ld (.int .i64) 1 (x0.add 1) fun v28 =>
 C.st 1 (x0.add 1) (.int .i64 (IntKind.wrap .i64 (v28 + 1))) <|
 C.ld (.int .u64) 1 (x0.add 2) fun v36 =>
 C.st 1 (x0.add 2) (.int .u64 (IntKind.wrap .u64 ((IntKind.wrap .u64 ((IntKind.wrap .u64 (v36 * 6364136223846793005)) + (IntKind.wrap .u64 (s7)))) + 1442695040888963407))) <|
 C.draw <|
 C.ld (.int .i64) 1 (x0.add 1) fun v47 =>
 C.ld .slice 1 (x0.add 0) fun v51 =>
 cond (decide (v47 ≤ (v51.n : Int))) (
 C.ret (.int .i64 s7)
 ) (
 C.ld (.int .u64) 1 (x0.add 2) fun v58 =>
 C.ret (.int .i64 (IntKind.wrap .i64 ((bitsI .and .u64 (Int.fdiv v58 (2 ^ 40)) 255))))
 )
 ) fun jt =>
 C.draw <|
 C.ld (.int .i64) 1 (x0.add 1) fun v7 =>
 C.ld .slice 1 (x0.add 0) fun v11 =>
 cond (decide (v7 < (v11.n : Int))) (
 C.draw <|
 C.ld .slice 1 (x0.add 0) fun v17 =>
 C.ld (.int .i64) 1 (x0.add 1) fun v21 =>
 C.ix v17.a v17.n 1 v21 fun p22 =>
 C.ld (.int .u8) 1 p22 fun v23 =>
 jt [(.int .i64 (IntKind.wrap .i64 (v23)))]
 ) (
 jt [(.int .i64 0)]
 )
theorem ptr_spec_l00Src_next_eq (C : Comb) (x0 : Addr) : fT C Tryz.prog ⟨[], [(39, [(3, (.int .i64))])], [], []⟩ n_ptr_spec_l00Src_next [(.pointer (some x0))] = ptr_spec_l00Src_next C x0 := by kernel_rfl
theorem ptr_spec_l00Src_next_calls {R : Value → World → Prop} {w : World} (x0 : Addr) (h : (ptr_spec_l00Src_next (real Tryz.prog R) x0 : World → Prop) w) :
    Calls Tryz.prog n_ptr_spec_l00Src_next [(.pointer (some x0))].toArray w fun e w' => ∃ v, e = .returned v ∧ R v w' := fT_sound mixed ⟨[], [(39, [(3, (.int .i64))])], [], []⟩ (by rw [ptr_spec_l00Src_next_eq]; exact h)

def impl_newScan (C : Comb) (x0 : Sl) : C.St :=
 cond (decide ((x0.n : Int) > 140000)) (
 C.ret (.tuple #[(.pointer none), (.int .i64 3)])
 ) (
 C.sem (Instr.buildSlice ty_sl_uint8 4 #[(0, (.int .u8 72)), (1, (.int .u8 84)), (2, (.int .u8 80)), (3, (.int .u8 49))]) .slice fun y10 =>
 C.sem (convert ty_sl_uint8 ty_sl_uint8 (.slice y10.a y10.n y10.c)) .slice fun y11 =>
 C.call n_bytes_HasPrefix [(.slice x0.a x0.n x0.c), (.slice y11.a y11.n y11.c)] [.bool] fun r12 =>
 cond (!r12) (
 C.ret (.tuple #[(.pointer none), (.int .i64 5)])
 ) (
 C.pur (Instr.build ty_impl_scan #[(0, (.slice x0.a x0.n x0.c)), (1, (.int .i64 4))]) .agg fun y15 =>
 C.new ty_impl_scan (.agg y15) fun b16 =>
 C.ret (.tuple #[(.pointer (some (Addr.mk b16 0 none))), (.int .i64 0)])
 )
 )
theorem impl_newScan_eq (C : Comb) (x0 : Sl) : fT C Tryz.prog ⟨[], [], [], []⟩ n_impl_newScan [(.slice x0.a x0.n x0.c)] = impl_newScan C x0 := by kernel_rfl
theorem impl_newScan_calls {R : Value → World → Prop} {w : World} (x0 : Sl) (h : (impl_newScan (real Tryz.prog R) x0 : World → Prop) w) :
    Calls Tryz.prog n_impl_newScan [(.slice x0.a x0.n x0.c)].toArray w fun e w' => ∃ v, e = .returned v ∧ R v w' := fT_sound mixed ⟨[], [], [], []⟩ (by rw [impl_newScan_eq]; exact h)

def ptr_impl_scan_record (C : Comb) (x0 : Addr) : C.St :=
 C.new ty_impl_Blob (.agg (#[(.int .u8 0), (.slice none 0 0)])) fun b2 =>
 C.new ty_impl_PackEntry (.agg (#[(.int .u8 0), (.int .u8 0), (.int .u8 0), (.int .u8 0), (.int .u8 0), (.int .u8 0), (.int .u8 0), (.int .u8 0), (.int .u8 0), (.int .u8 0), (.int .u8 0), (.int .u8 0), (.int .u8 0), (.int .u8 0), (.int .u8 0), (.int .u8 0), (.int .u8 0), (.int .u8 0), (.int .u8 0), (.int .u8 0), (.int .u8 0), (.int .u8 0), (.int .u8 0), (.int .u8 0), (.int .u8 0), (.int .u8 0), (.int .u8 0), (.int .u8 0), (.int .u8 0), (.int .u8 0), (.int .u8 0), (.int .u8 0), (.int .i64 0), (.int .i64 0), (.int .i64 0)])) fun b3 =>
 C.draw <|
 C.ld .slice 1 (x0.add 0) fun v22 =>
 C.ld (.int .i64) 1 (x0.add 1) fun v26 =>
 C.sl v22.a v22.n v22.c 1 (some v26) none none fun y27 =>
 C.ld (.int .i64) 1 (x0.add 1) fun v31 =>
 C.pur (Instr.build ty_impl_PackEntry #[(1, (.int .i64 v31)), (2, (.int .i64 (-1)))]) .agg fun y32 =>
 C.new ty_impl_PackEntry (.agg (#[(.int .u8 0), (.int .u8 0), (.int .u8 0), (.int .u8 0), (.int .u8 0), (.int .u8 0), (.int .u8 0), (.int .u8 0), (.int .u8 0), (.int .u8 0), (.int .u8 0), (.int .u8 0), (.int .u8 0), (.int .u8 0), (.int .u8 0), (.int .u8 0), (.int .u8 0), (.int .u8 0), (.int .u8 0), (.int .u8 0), (.int .u8 0), (.int .u8 0), (.int .u8 0), (.int .u8 0), (.int .u8 0), (.int .u8 0), (.int .u8 0), (.int .u8 0), (.int .u8 0), (.int .u8 0), (.int .u8 0), (.int .u8 0), (.int .i64 0), (.int .i64 0), (.int .i64 0)])) fun b8 =>
 C.st 35 (Addr.mk b8 0 none) (.agg y32) <|
 C.join (TL [.bool]) (embL [.bool]) (fun s11 => C.any fun _ =>
 cond s11 (
 C.draw <|
 C.pur (Instr.build ty_impl_Blob #[]) .agg fun y42 =>
 C.ld .agg 35 (Addr.mk b8 0 none) fun v43 =>
 C.st 2 (Addr.mk b2 0 none) (.agg y42) <|
 C.chk [⟨1, 35, (Addr.mk b8 0 none), .agg, v43⟩] <|
 C.st 35 (Addr.mk b3 0 none) (.agg v43) <|
 C.ld .agg 2 (Addr.mk b2 0 none) fun z14 =>
 C.ld .agg 35 (Addr.mk b3 0 none) fun z15 =>
 C.ret (.tuple #[(.agg z14), (.agg z15), (.int .i64 0), (.bool false), (.bool false)])
 ) (
 C.ix y27.a y27.n 1 0 fun p45 =>
 C.ld (.int .u8) 1 p45 fun v46 =>
 C.join (TL [(.int .i64)]) (embL [(.int .i64)]) (fun s18 => C.any fun _ =>
 cond (decide ((y27.n : Int) < s18)) (
 C.draw <|
 C.pur (Instr.build ty_impl_Blob #[]) .agg fun y53 =>
 C.ld .agg 35 (Addr.mk b8 0 none) fun v54 =>
 C.st 2 (Addr.mk b2 0 none) (.agg y53) <|
 C.chk [⟨1, 35, (Addr.mk b8 0 none), .agg, v54⟩] <|
 C.st 35 (Addr.mk b3 0 none) (.agg v54) <|
 C.ld .agg 2 (Addr.mk b2 0 none) fun z21 =>
 C.ld .agg 35 (Addr.mk b3 0 none) fun z22 =>
 C.ret (.tuple #[(.agg z21), (.agg z22), (.int .i64 0), (.bool false), (.bool false)])
 ) (
 C.sl y27.a y27.n y27.c 1 (some (IntKind.wrap .i64 (s18 - 2))) (some s18) none fun y59 =>
 C.call n_impl_littleNumber [(.slice y59.a y59.n y59.c)] [(.int .u64)] fun r60 =>
 cond (decide ((y27.n : Int) < (IntKind.wrap .i64 ((IntKind.wrap .i64 (s18 + (IntKind.wrap .i64 (r60)))) + 4)))) (
 C.draw <|
 C.pur (Instr.build ty_impl_Blob #[]) .agg fun y69 =>
 C.ld .agg 35 (Addr.mk b8 0 none) fun v70 =>
 C.st 2 (Addr.mk b2 0 none) (.agg y69) <|
 C.chk [⟨1, 35, (Addr.mk b8 0 none), .agg, v70⟩] <|
 C.st 35 (Addr.mk b3 0 none) (.agg v70) <|
 C.ld .agg 2 (Addr.mk b2 0 none) fun z27 =>
 C.ld .agg 35 (Addr.mk b3 0 none) fun z28 =>
 C.ret (.tuple #[(.agg z27), (.agg z28), (.int .i64 0), (.bool false), (.bool false)])
 ) (
 C.join (TL [.ptr, .slice]) (embL [.ptr, .slice]) (fun s34 => C.any fun _ =>
 C.join (TL []) (embL []) (fun s58 => C.any fun _ =>
 C.ld .agg 2 s34.1 fun v133 =>
 C.call n_impl_Blob_key [(.agg v133)] [.agg] fun r134 =>
 C.st 32 ((Addr.mk b8 0 none).add 0) (.agg r134) <|
 C.join (TL [.bool]) (embL [.bool]) (fun s64 => C.any fun _ =>
 C.join (TL [.bool]) (embL [.bool]) (fun s79 => C.any fun _ =>
 C.draw <|
 C.ld .agg 2 s34.1 fun v171 =>
 C.ld .agg 35 (Addr.mk b8 0 none) fun v172 =>
 C.ld (.int .i64) 1 (x0.add 1) fun v176 =>
 C.st 2 (Addr.mk b2 0 none) (.agg v171) <|
 C.chk [⟨5, 1, (x0.add 1), (.int .i64), v176⟩, ⟨1, 35, (Addr.mk b8 0 none), .agg, v172⟩] <|
 C.st 35 (Addr.mk b3 0 none) (.agg v172) <|
 C.chk [⟨5, 1, (x0.add 1), (.int .i64), v176⟩] <|
 C.ld .agg 2 (Addr.mk b2 0 none) fun z83 =>
 C.ld .agg 35 (Addr.mk b3 0 none) fun z84 =>
 C.ret (.tuple #[(.agg z83), (.agg z84), (.int .i64 (IntKind.wrap .i64 ((IntKind.wrap .i64 ((IntKind.wrap .i64 (v176 + s18)) + (IntKind.wrap .i64 (r60)))) + 4))), (.bool s79), (.bool true)])
 ) fun jt =>
 C.ld .slice 1 (x0.add 3) fun v151 =>
 cond (decide ((v151.n : Int) > 0)) (
 C.draw <|
 cond s64 (
 C.all [
 (C.ld .slice 1 (x0.add 3) fun v160 =>
 C.ix v160.a v160.n 35 (IntKind.wrap .i64 ((v151.n : Int) - 1)) fun p163 =>
 C.all [
 (C.ld .agg 32 (p163.add 0) fun v165 =>
 C.ld .agg 32 ((Addr.mk b8 0 none).add 0) fun v167 =>
 C.call n_impl_compareKeys [(.agg v165), (.agg v167)] [(.int .i64)] fun r168 =>
 jt [(.bool (decide (r168 < 0)))]),
 (C.ld .agg 32 ((Addr.mk b8 0 none).add 0) fun v167 =>
 C.ld .agg 32 (p163.add 0) fun v165 =>
 C.call n_impl_compareKeys [(.agg v165), (.agg v167)] [(.int .i64)] fun r168 =>
 jt [(.bool (decide (r168 < 0)))])]),
 (C.ld .agg 32 ((Addr.mk b8 0 none).add 0) fun v167 =>
 C.ld .slice 1 (x0.add 3) fun v160 =>
 C.ix v160.a v160.n 35 (IntKind.wrap .i64 ((v151.n : Int) - 1)) fun p163 =>
 C.ld .agg 32 (p163.add 0) fun v165 =>
 C.call n_impl_compareKeys [(.agg v165), (.agg v167)] [(.int .i64)] fun r168 =>
 jt [(.bool (decide (r168 < 0)))])]
 ) (
 C.all [
 (C.all [
 (jt [(.bool false)]),
 (jt [(.bool false)])]),
 (jt [(.bool false)])]
 )
 ) (
 jt [(.bool s64)]
 )
 ) fun jt =>
 C.draw <|
 C.sl (some ((Addr.mk b8 0 none).add 0)) 32 32 1 none (some 4) none fun y137 =>
 C.sl y27.a y27.n y27.c 1 (some (IntKind.wrap .i64 (s18 + (IntKind.wrap .i64 (r60))))) (some (IntKind.wrap .i64 ((IntKind.wrap .i64 (s18 + (IntKind.wrap .i64 (r60)))) + 4))) none fun y146 =>
 C.call n_bytes_Equal [(.slice y137.a y137.n y137.c), (.slice y146.a y146.n y146.c)] [.bool] fun r147 =>
 jt [(.bool r147)]
 ) fun jt =>
 cond (v46 == 1) (
 C.ix y27.a y27.n 1 2 fun p83 =>
 C.ld (.int .u8) 1 p83 fun v84 =>
 C.ld .slice 1 (x0.add 2) fun v90 =>
 cond (decide ((IntKind.wrap .i64 (v84)) ≥ (v90.n : Int))) (
 C.draw <|
 C.pur (Instr.build ty_impl_Blob #[]) .agg fun y93 =>
 C.ld .agg 35 (Addr.mk b8 0 none) fun v94 =>
 C.st 2 (Addr.mk b2 0 none) (.agg y93) <|
 C.chk [⟨1, 35, (Addr.mk b8 0 none), .agg, v94⟩] <|
 C.st 35 (Addr.mk b3 0 none) (.agg v94) <|
 C.ld .agg 2 (Addr.mk b2 0 none) fun z40 =>
 C.ld .agg 35 (Addr.mk b3 0 none) fun z41 =>
 C.ret (.tuple #[(.agg z40), (.agg z41), (.int .i64 0), (.bool false), (.bool false)])
 ) (
 C.ld .slice 1 (x0.add 2) fun v99 =>
 C.ix v99.a v99.n 2 (IntKind.wrap .i64 (v84)) fun p101 =>
 C.ld .slice 1 (p101.add 1) fun v103 =>
 C.call n_impl_apply [(.slice v103.a v103.n v103.c), (.slice s34.2.a s34.2.n s34.2.c)] [.slice, (.int .i64)] fun r105 =>
 cond (r105.2 != 0) (
 C.draw <|
 C.pur (Instr.build ty_impl_Blob #[]) .agg fun y110 =>
 C.ld .agg 35 (Addr.mk b8 0 none) fun v111 =>
 C.st 2 (Addr.mk b2 0 none) (.agg y110) <|
 C.chk [⟨1, 35, (Addr.mk b8 0 none), .agg, v111⟩] <|
 C.st 35 (Addr.mk b3 0 none) (.agg v111) <|
 C.ld .agg 2 (Addr.mk b2 0 none) fun z48 =>
 C.ld .agg 35 (Addr.mk b3 0 none) fun z49 =>
 C.ret (.tuple #[(.agg z48), (.agg z49), (.int .i64 0), (.bool false), (.bool false)])
 ) (
 C.ld .slice 1 (x0.add 3) fun v117 =>
 C.ix v117.a v117.n 35 (IntKind.wrap .i64 (v84)) fun p119 =>
 C.ld (.int .i64) 1 (p119.add 34) fun v121 =>
 C.st 1 (s34.1.add 1) (.slice r105.1.a r105.1.n r105.1.c) <|
 C.st 1 ((Addr.mk b8 0 none).add 33) (.int .i64 (IntKind.wrap .i64 (v84))) <|
 C.st 1 ((Addr.mk b8 0 none).add 34) (.int .i64 (IntKind.wrap .i64 (v121 + 1))) <|
 jt []
 )
 )
 ) (
 cond (decide ((IntKind.wrap .i64 (r60)) > 1024)) (
 C.draw <|
 C.pur (Instr.build ty_impl_Blob #[]) .agg fun y128 =>
 C.ld .agg 35 (Addr.mk b8 0 none) fun v129 =>
 C.st 2 (Addr.mk b2 0 none) (.agg y128) <|
 C.chk [⟨1, 35, (Addr.mk b8 0 none), .agg, v129⟩] <|
 C.st 35 (Addr.mk b3 0 none) (.agg v129) <|
 C.ld .agg 2 (Addr.mk b2 0 none) fun z55 =>
 C.ld .agg 35 (Addr.mk b3 0 none) fun z56 =>
 C.ret (.tuple #[(.agg z55), (.agg z56), (.int .i64 0), (.bool false), (.bool false)])
 ) (
 C.call n_slices_Clone_sl_byte_byte [(.slice s34.2.a s34.2.n s34.2.c)] [.slice] fun r131 =>
 C.st 1 (s34.1.add 1) (.slice r131.a r131.n r131.c) <|
 jt []
 )
 )
 ) fun jt =>
 C.draw <|
 C.ix y27.a y27.n 1 1 fun p72 =>
 C.ld (.int .u8) 1 p72 fun v73 =>
 C.pur (Instr.build ty_impl_Blob #[(0, (.int .u8 v73))]) .agg fun y74 =>
 C.sl y27.a y27.n y27.c 1 (some s18) (some (IntKind.wrap .i64 (s18 + (IntKind.wrap .i64 (r60))))) none fun y80 =>
 C.new ty_impl_Blob (.agg (#[(.int .u8 0), (.slice none 0 0)])) fun b12 =>
 C.chk [⟨2, 1, p72, (.int .u8), v73⟩] <|
 C.st 2 (Addr.mk b12 0 none) (.agg y74) <|
 jt [(.pointer (some (Addr.mk b12 0 none))), (.slice y80.a y80.n y80.c)]
 )
 )
 ) fun jt =>
 cond (v46 == 1) (
 jt [(.int .i64 5)]
 ) (
 jt [(.int .i64 4)]
 )
 )
 ) fun jt =>
 cond (decide ((y27.n : Int) < 2)) (
 jt [(.bool true)]
 ) (
 C.ix y27.a y27.n 1 0 fun p38 =>
 C.ld (.int .u8) 1 p38 fun v39 =>
 jt [(.bool (decide (v39 > 1)))]
 )
theorem ptr_impl_scan_record_eq (C : Comb) (x0 : Addr) : fT C Tryz.prog ⟨[], [(10, [(41, .bool)]), (144, [(10, (.int .i64))]), (40, [(12, .ptr), (13, .slice)]), (243, []), (79, [(17, .bool)]), (462, [(17, .bool)])], [4, 9, 12, 13, 17, 20, 23, 26, 29, 30], []⟩ n_ptr_impl_scan_record [(.pointer (some x0))] = ptr_impl_scan_record C x0 := by kernel_rfl
theorem ptr_impl_scan_record_calls {R : Value → World → Prop} {w : World} (x0 : Addr) (h : (ptr_impl_scan_record (real Tryz.prog R) x0 : World → Prop) w) :
    Calls Tryz.prog n_ptr_impl_scan_record [(.pointer (some x0))].toArray w fun e w' => ∃ v, e = .returned v ∧ R v w' := fT_sound mixed ⟨[], [(10, [(41, .bool)]), (144, [(10, (.int .i64))]), (40, [(12, .ptr), (13, .slice)]), (243, []), (79, [(17, .bool)]), (462, [(17, .bool)])], [4, 9, 12, 13, 17, 20, 23, 26, 29, 30], []⟩ (by rw [ptr_impl_scan_record_eq]; exact h)

def ptr_impl_scan_take (C : Comb) (x0 : Addr) (x1 : Array Value) (x2 : Array Value) (x3 : Int) : C.St :=
 C.new ty_impl_Blob (.agg x1) fun b5 =>
 C.new ty_impl_PackEntry (.agg x2) fun b6 =>
 C.draw <|
 C.ld .slice 1 (x0.add 2) fun v14 =>
 C.ld .agg 2 (Addr.mk b5 0 none) fun v15 =>
 C.ld .slice 1 (x0.add 3) fun v21 =>
 C.ld .agg 35 (Addr.mk b6 0 none) fun v22 =>
 C.all [
 (C.sem (Instr.buildSlice ty_sl_impl_Blob 1 #[(0, (.agg v15))]) .slice fun y16 =>
 C.chk [⟨14, 35, (Addr.mk b6 0 none), .agg, v22⟩, ⟨13, 1, (x0.add 3), .slice, v21⟩, ⟨6, 1, (x0.add 2), .slice, v14⟩] <|
 C.all [
 (C.sem (Builtin.append_ #[ty_sl_impl_Blob, ty_sl_impl_Blob] ty_sl_impl_Blob #[(.slice v14.a v14.n v14.c), (.slice y16.a y16.n y16.c)]) .slice fun y17 =>
 C.chk [⟨14, 35, (Addr.mk b6 0 none), .agg, v22⟩, ⟨13, 1, (x0.add 3), .slice, v21⟩] <|
 C.sem (Instr.buildSlice ty_sl_impl_PackEntry 1 #[(0, (.agg v22))]) .slice fun y23 =>
 C.chk [⟨13, 1, (x0.add 3), .slice, v21⟩] <|
 C.sem (Builtin.append_ #[ty_sl_impl_PackEntry, ty_sl_impl_PackEntry] ty_sl_impl_PackEntry #[(.slice v21.a v21.n v21.c), (.slice y23.a y23.n y23.c)]) .slice fun y24 =>
 C.st 1 (x0.add 2) (.slice y17.a y17.n y17.c) <|
 C.st 1 (x0.add 3) (.slice y24.a y24.n y24.c) <|
 C.st 1 (x0.add 1) (.int .i64 x3) <|
 C.ret (.tuple #[])),
 (C.sem (Instr.buildSlice ty_sl_impl_PackEntry 1 #[(0, (.agg v22))]) .slice fun y23 =>
 C.chk [⟨13, 1, (x0.add 3), .slice, v21⟩, ⟨6, 1, (x0.add 2), .slice, v14⟩] <|
 C.sem (Builtin.append_ #[ty_sl_impl_Blob, ty_sl_impl_Blob] ty_sl_impl_Blob #[(.slice v14.a v14.n v14.c), (.slice y16.a y16.n y16.c)]) .slice fun y17 =>
 C.chk [⟨13, 1, (x0.add 3), .slice, v21⟩] <|
 C.sem (Builtin.append_ #[ty_sl_impl_PackEntry, ty_sl_impl_PackEntry] ty_sl_impl_PackEntry #[(.slice v21.a v21.n v21.c), (.slice y23.a y23.n y23.c)]) .slice fun y24 =>
 C.st 1 (x0.add 2) (.slice y17.a y17.n y17.c) <|
 C.st 1 (x0.add 3) (.slice y24.a y24.n y24.c) <|
 C.st 1 (x0.add 1) (.int .i64 x3) <|
 C.ret (.tuple #[]))]),
 (C.sem (Instr.buildSlice ty_sl_impl_PackEntry 1 #[(0, (.agg v22))]) .slice fun y23 =>
 C.chk [⟨13, 1, (x0.add 3), .slice, v21⟩, ⟨7, 2, (Addr.mk b5 0 none), .agg, v15⟩, ⟨6, 1, (x0.add 2), .slice, v14⟩] <|
 C.sem (Instr.buildSlice ty_sl_impl_Blob 1 #[(0, (.agg v15))]) .slice fun y16 =>
 C.chk [⟨13, 1, (x0.add 3), .slice, v21⟩, ⟨6, 1, (x0.add 2), .slice, v14⟩] <|
 C.sem (Builtin.append_ #[ty_sl_impl_Blob, ty_sl_impl_Blob] ty_sl_impl_Blob #[(.slice v14.a v14.n v14.c), (.slice y16.a y16.n y16.c)]) .slice fun y17 =>
 C.chk [⟨13, 1, (x0.add 3), .slice, v21⟩] <|
 C.sem (Builtin.append_ #[ty_sl_impl_PackEntry, ty_sl_impl_PackEntry] ty_sl_impl_PackEntry #[(.slice v21.a v21.n v21.c), (.slice y23.a y23.n y23.c)]) .slice fun y24 =>
 C.st 1 (x0.add 2) (.slice y17.a y17.n y17.c) <|
 C.st 1 (x0.add 3) (.slice y24.a y24.n y24.c) <|
 C.st 1 (x0.add 1) (.int .i64 x3) <|
 C.ret (.tuple #[]))]
theorem ptr_impl_scan_take_eq (C : Comb) (x0 : Addr) (x1 : Array Value) (x2 : Array Value) (x3 : Int) : fT C Tryz.prog ⟨[], [], [1], []⟩ n_ptr_impl_scan_take [(.pointer (some x0)), (.agg x1), (.agg x2), (.int .i64 x3)] = ptr_impl_scan_take C x0 x1 x2 x3 := by kernel_rfl
theorem ptr_impl_scan_take_calls {R : Value → World → Prop} {w : World} (x0 : Addr) (x1 : Array Value) (x2 : Array Value) (x3 : Int) (h : (ptr_impl_scan_take (real Tryz.prog R) x0 x1 x2 x3 : World → Prop) w) :
    Calls Tryz.prog n_ptr_impl_scan_take [(.pointer (some x0)), (.agg x1), (.agg x2), (.int .i64 x3)].toArray w fun e w' => ∃ v, e = .returned v ∧ R v w' := fT_sound mixed ⟨[], [], [1], []⟩ (by rw [ptr_impl_scan_take_eq]; exact h)

def impl_DeltaOf (C : Comb) (x0 : Sl) (x1 : Sl) : C.St :=
 C.join (TL []) (embL []) (fun s1 => C.any fun _ =>
 C.call n_impl_delta [(.slice x0.a x0.n x0.c), (.slice x1.a x1.n x1.c)] [.slice] fun r17 =>
 cond (decide ((r17.n : Int) > 1024)) (
 C.ret (.tuple #[(.slice none 0 0), (.int .i64 3)])
 ) (
 C.ret (.tuple #[(.slice r17.a r17.n r17.c), (.int .i64 0)])
 )
 ) fun jt =>
 cond (decide ((x0.n : Int) > 1024)) (
 C.ret (.tuple #[(.slice none 0 0), (.int .i64 3)])
 ) (
 cond (decide ((x1.n : Int) > 1024)) (
 C.ret (.tuple #[(.slice none 0 0), (.int .i64 3)])
 ) (
 jt []
 )
 )
theorem impl_DeltaOf_eq (C : Comb) (x0 : Sl) (x1 : Sl) : fT C Tryz.prog ⟨[], [(42, [])], [], []⟩ n_impl_DeltaOf [(.slice x0.a x0.n x0.c), (.slice x1.a x1.n x1.c)] = impl_DeltaOf C x0 x1 := by kernel_rfl
theorem impl_DeltaOf_calls {R : Value → World → Prop} {w : World} (x0 : Sl) (x1 : Sl) (h : (impl_DeltaOf (real Tryz.prog R) x0 x1 : World → Prop) w) :
    Calls Tryz.prog n_impl_DeltaOf [(.slice x0.a x0.n x0.c), (.slice x1.a x1.n x1.c)].toArray w fun e w' => ∃ v, e = .returned v ∧ R v w' := fT_sound mixed ⟨[], [(42, [])], [], []⟩ (by rw [impl_DeltaOf_eq]; exact h)

def impl_appendLittle (C : Comb) (x0 : Sl) (x1 : Int) (x2 : Int) : C.St :=
 C.loop (TL [.slice, (.int .i64)]) (embL [.slice, (.int .i64)]) [(.slice x0.a x0.n x0.c), (.int .i64 0)] fun s1 ct1 => C.any fun _ =>
 cond (decide (s1.2 < x2)) (
 C.pur (eqB .shr ty_uint64 (.tmp 13) (.tmp 15) (.int .u64 x1) (.int .i64 (IntKind.wrap .i64 (8 * s1.2)))) (.int .u64) fun y16 =>
 C.sem (Instr.buildSlice ty_sl_uint8 1 #[(0, (.int .u8 (IntKind.wrap .u8 (y16))))]) .slice fun y18 =>
 C.sem (Builtin.append_ #[ty_sl_uint8, ty_sl_uint8] ty_sl_uint8 #[(.slice s1.1.a s1.1.n s1.1.c), (.slice y18.a y18.n y18.c)]) .slice fun y19 =>
 ct1 [(.slice y19.a y19.n y19.c), (.int .i64 (IntKind.wrap .i64 (s1.2 + 1)))]
 ) (
 C.ret (.slice s1.1.a s1.1.n s1.1.c)
 )
theorem impl_appendLittle_eq (C : Comb) (x0 : Sl) (x1 : Int) (x2 : Int) : fT C Tryz.prog ⟨[(2, [(0, .slice), (9, (.int .i64))])], [], [], []⟩ n_impl_appendLittle [(.slice x0.a x0.n x0.c), (.int .u64 x1), (.int .i64 x2)] = impl_appendLittle C x0 x1 x2 := by kernel_rfl
theorem impl_appendLittle_calls {R : Value → World → Prop} {w : World} (x0 : Sl) (x1 : Int) (x2 : Int) (h : (impl_appendLittle (real Tryz.prog R) x0 x1 x2 : World → Prop) w) :
    Calls Tryz.prog n_impl_appendLittle [(.slice x0.a x0.n x0.c), (.int .u64 x1), (.int .i64 x2)].toArray w fun e w' => ∃ v, e = .returned v ∧ R v w' := fT_sound mixed ⟨[(2, [(0, .slice), (9, (.int .i64))])], [], [], []⟩ (by rw [impl_appendLittle_eq]; exact h)

def impl_hash (C : Comb) (x0 : Int) (x1 : Sl) : C.St :=
 C.new ty_impl_Key (.agg (Array.replicate 32 (.int .u8 0))) fun b4 =>
 C.call n_impl_size_byte [(.slice x1.a x1.n x1.c)] [(.int .i64)] fun r10 =>
 C.call n_impl_padding [(.int .i64 r10)] [.slice] fun r11 =>
 C.sem (Instr.buildSlice ty_sl_sl_uint8 2 #[(0, (.slice x1.a x1.n x1.c)), (1, (.slice r11.a r11.n r11.c))]) .slice fun y12 =>
 C.call n_slices_Concat_sl_byte_byte [(.slice y12.a y12.n y12.c)] [.slice] fun r13 =>
 C.call n_impl_blocks [(.slice r13.a r13.n r13.c)] [.slice, .slice] fun r14 =>
 C.call n_impl_StartState [(.int .u8 x0)] [.agg] fun r18 =>
 C.call n_impl_mixed [(.agg r18), (.slice r14.1.a r14.1.n r14.1.c)] [.agg] fun r20 =>
 C.call n_impl_keyOf [(.agg r20)] [.agg] fun r21 =>
 C.st 32 (Addr.mk b4 0 none) (.agg r21) <|
 C.ld .agg 32 (Addr.mk b4 0 none) fun z10 =>
 C.ret (.agg z10)
theorem impl_hash_eq (C : Comb) (x0 : Int) (x1 : Sl) : fT C Tryz.prog ⟨[], [], [], []⟩ n_impl_hash [(.int .u8 x0), (.slice x1.a x1.n x1.c)] = impl_hash C x0 x1 := by kernel_rfl
theorem impl_hash_calls {R : Value → World → Prop} {w : World} (x0 : Int) (x1 : Sl) (h : (impl_hash (real Tryz.prog R) x0 x1 : World → Prop) w) :
    Calls Tryz.prog n_impl_hash [(.int .u8 x0), (.slice x1.a x1.n x1.c)].toArray w fun e w' => ∃ v, e = .returned v ∧ R v w' := fT_sound mixed ⟨[], [], [], []⟩ (by rw [impl_hash_eq]; exact h)

def ptr_spec_l00Src_text (C : Comb) (x0 : Addr) (x1 : Sl) : C.St :=
 C.call n_ptr_spec_l00Src_pick [(.pointer (some x0)), (.int .i64 (x1.n : Int))] [(.int .i64)] fun r9 =>
 C.ix x1.a x1.n 1 r9 fun p10 =>
 C.ld .str 1 p10 fun v11 =>
 C.ret (.string v11)
theorem ptr_spec_l00Src_text_eq (C : Comb) (x0 : Addr) (x1 : Sl) : fT C Tryz.prog ⟨[], [], [], []⟩ n_ptr_spec_l00Src_text [(.pointer (some x0)), (.slice x1.a x1.n x1.c)] = ptr_spec_l00Src_text C x0 x1 := by kernel_rfl
theorem ptr_spec_l00Src_text_calls {R : Value → World → Prop} {w : World} (x0 : Addr) (x1 : Sl) (h : (ptr_spec_l00Src_text (real Tryz.prog R) x0 x1 : World → Prop) w) :
    Calls Tryz.prog n_ptr_spec_l00Src_text [(.pointer (some x0)), (.slice x1.a x1.n x1.c)].toArray w fun e w' => ∃ v, e = .returned v ∧ R v w' := fT_sound mixed ⟨[], [], [], []⟩ (by rw [ptr_spec_l00Src_text_eq]; exact h)

def spec_l00In (C : Comb) (x0 : Int) (x1 : Int) (x2 : Int) : C.St :=
 cond (decide (x0 ≥ x1)) (
 C.ret (.bool (decide (x0 ≤ x2)))
 ) (
 C.ret (.bool false)
 )
theorem spec_l00In_eq (C : Comb) (x0 : Int) (x1 : Int) (x2 : Int) : fT C Tryz.prog ⟨[], [], [], []⟩ n_spec_l00In [(.int .i64 x0), (.int .i64 x1), (.int .i64 x2)] = spec_l00In C x0 x1 x2 := by kernel_rfl
theorem spec_l00In_calls {R : Value → World → Prop} {w : World} (x0 : Int) (x1 : Int) (x2 : Int) (h : (spec_l00In (real Tryz.prog R) x0 x1 x2 : World → Prop) w) :
    Calls Tryz.prog n_spec_l00In [(.int .i64 x0), (.int .i64 x1), (.int .i64 x2)].toArray w fun e w' => ∃ v, e = .returned v ∧ R v w' := fT_sound mixed ⟨[], [], [], []⟩ (by rw [spec_l00In_eq]; exact h)

def slices_Compare_sl_byte_byte (C : Comb) (x0 : Sl) (x1 : Sl) : C.St :=
 C.loop (TL [(.int .i64)]) (embL [(.int .i64)]) [(.int .i64 0)] fun s1 ct1 => C.any fun _ =>
 cond (decide (s1 < (x0.n : Int))) (
 C.ix x0.a x0.n 1 s1 fun p14 =>
 C.ld (.int .u8) 1 p14 fun v15 =>
 cond (decide (s1 ≥ (x1.n : Int))) (
 C.ret (.int .i64 1)
 ) (
 C.ix x1.a x1.n 1 s1 fun p22 =>
 C.ld (.int .u8) 1 p22 fun v23 =>
 C.call n_cmp_Compare_byte [(.int .u8 v15), (.int .u8 v23)] [(.int .i64)] fun r26 =>
 cond (r26 != 0) (
 C.ret (.int .i64 r26)
 ) (
 ct1 [(.int .i64 (IntKind.wrap .i64 (s1 + 1)))]
 )
 )
 ) (
 cond (decide ((x0.n : Int) < (x1.n : Int))) (
 C.ret (.int .i64 (-1))
 ) (
 C.ret (.int .i64 0)
 )
 )
theorem slices_Compare_sl_byte_byte_eq (C : Comb) (x0 : Sl) (x1 : Sl) : fT C Tryz.prog ⟨[(2, [(11, (.int .i64))])], [], [], []⟩ n_slices_Compare_sl_byte_byte [(.slice x0.a x0.n x0.c), (.slice x1.a x1.n x1.c)] = slices_Compare_sl_byte_byte C x0 x1 := by kernel_rfl
theorem slices_Compare_sl_byte_byte_calls {R : Value → World → Prop} {w : World} (x0 : Sl) (x1 : Sl) (h : (slices_Compare_sl_byte_byte (real Tryz.prog R) x0 x1 : World → Prop) w) :
    Calls Tryz.prog n_slices_Compare_sl_byte_byte [(.slice x0.a x0.n x0.c), (.slice x1.a x1.n x1.c)].toArray w fun e w' => ∃ v, e = .returned v ∧ R v w' := fT_sound mixed ⟨[(2, [(11, (.int .i64))])], [], [], []⟩ (by rw [slices_Compare_sl_byte_byte_eq]; exact h)

def spec_PutFolder (C : Comb) (x0 : Array Value) (x1 : Sl) : C.St :=
 C.new ty_impl_Store (.agg x0) fun b2 =>
 C.new ty_impl_Store (.agg (#[(.slice none 0 0)])) fun b4 =>
 C.new ty_impl_Key (.agg (Array.replicate 32 (.int .u8 0))) fun b5 =>
 C.call n_spec_l05Open [(.pointer (some (Addr.mk b2 0 none)))] [.optr, .bool] fun r15 =>
 cond (!r15.2) (
 C.pur (Instr.build ty_impl_Store #[]) .agg fun y20 =>
 C.st 1 (Addr.mk b4 0 none) (.agg y20) <|
 C.st 32 (Addr.mk b5 0 none) (.agg (Array.replicate 32 (.int .u8 0))) <|
 C.ld .agg 1 (Addr.mk b4 0 none) fun z6 =>
 C.ld .agg 32 (Addr.mk b5 0 none) fun z7 =>
 C.ret (.tuple #[(.agg z6), (.agg z7), (.int .i64 1)])
 ) (
 cond (decide ((x1.n : Int) > 32)) (
 C.pur (Instr.build ty_impl_Store #[]) .agg fun y25 =>
 C.st 1 (Addr.mk b4 0 none) (.agg y25) <|
 C.st 32 (Addr.mk b5 0 none) (.agg (Array.replicate 32 (.int .u8 0))) <|
 C.ld .agg 1 (Addr.mk b4 0 none) fun z9 =>
 C.ld .agg 32 (Addr.mk b5 0 none) fun z10 =>
 C.ret (.tuple #[(.agg z9), (.agg z10), (.int .i64 3)])
 ) (
 C.sem (Instr.buildSlice ty_sl_uint8 0 #[]) .slice fun y27 =>
 C.loop (TL [.slice, (.int .i64)]) (embL [.slice, (.int .i64)]) [(.slice y27.a y27.n y27.c), (.int .i64 0)] fun s12 ct12 => C.any fun _ =>
 cond (decide (s12.2 < (x1.n : Int))) (
 C.loop (TL [.slice, (.int .i64)]) (embL [.slice, (.int .i64)]) [(.slice s12.1.a s12.1.n s12.1.c), (.int .i64 0)] fun s13 ct13 => C.any fun _ =>
 cond (decide (s13.2 < 32)) (
 C.ix x1.a x1.n 32 s12.2 fun p42 =>
 C.ix (some p42) 32 1 s13.2 fun p43 =>
 C.ld (.int .u8) 1 p43 fun v44 =>
 C.sem (Instr.buildSlice ty_sl_uint8 1 #[(0, (.int .u8 v44))]) .slice fun y45 =>
 C.sem (Builtin.append_ #[ty_sl_uint8, ty_sl_uint8] ty_sl_uint8 #[(.slice s13.1.a s13.1.n s13.1.c), (.slice y45.a y45.n y45.c)]) .slice fun y46 =>
 ct13 [(.slice y46.a y46.n y46.c), (.int .i64 (IntKind.wrap .i64 (s13.2 + 1)))]
 ) (
 ct12 [(.slice s13.1.a s13.1.n s13.1.c), (.int .i64 (IntKind.wrap .i64 (s12.2 + 1)))]
 )
 ) (
 C.pur (Instr.build ty_impl_Blob #[(0, (.int .u8 6)), (1, (.slice s12.1.a s12.1.n s12.1.c))]) .agg fun y50 =>
 C.call n_ptr_spec_l05Store_put [(.pointer r15.1), (.agg y50)] [.agg, (.int .i64)] fun r51 =>
 C.new ty_impl_Key (.agg (Array.replicate 32 (.int .u8 0))) fun b12 =>
 C.st 32 (Addr.mk b12 0 none) (.agg r51.1) <|
 C.ld .agg 32 (Addr.mk b12 0 none) fun v55 =>
 C.call n_spec_l05Made [(.pointer r15.1), (.agg v55), (.int .i64 r51.2)] [.agg, .agg, (.int .i64)] fun r57 =>
 C.st 1 (Addr.mk b4 0 none) (.agg r57.1) <|
 C.st 32 (Addr.mk b5 0 none) (.agg r57.2.1) <|
 C.ld .agg 1 (Addr.mk b4 0 none) fun z24 =>
 C.ld .agg 32 (Addr.mk b5 0 none) fun z25 =>
 C.ret (.tuple #[(.agg z24), (.agg z25), (.int .i64 r57.2.2)])
 )
 )
 )
theorem spec_PutFolder_eq (C : Comb) (x0 : Array Value) (x1 : Sl) : fT C Tryz.prog ⟨[(8, [(9, .slice), (10, (.int .i64))]), (11, [(9, .slice), (11, (.int .i64))])], [], [], []⟩ n_spec_PutFolder [(.agg x0), (.slice x1.a x1.n x1.c)] = spec_PutFolder C x0 x1 := by kernel_rfl
theorem spec_PutFolder_calls {R : Value → World → Prop} {w : World} (x0 : Array Value) (x1 : Sl) (h : (spec_PutFolder (real Tryz.prog R) x0 x1 : World → Prop) w) :
    Calls Tryz.prog n_spec_PutFolder [(.agg x0), (.slice x1.a x1.n x1.c)].toArray w fun e w' => ∃ v, e = .returned v ∧ R v w' := fT_sound mixed ⟨[(8, [(9, .slice), (10, (.int .i64))]), (11, [(9, .slice), (11, (.int .i64))])], [], [], []⟩ (by rw [spec_PutFolder_eq]; exact h)

def spec_DropBlob (C : Comb) (x0 : Array Value) (x1 : Array Value) : C.St :=
 C.new ty_impl_Store (.agg x0) fun b2 =>
 C.new ty_impl_Key (.agg x1) fun b3 =>
 C.new ty_impl_Store (.agg (#[(.slice none 0 0)])) fun b4 =>
 C.call n_spec_l05Open [(.pointer (some (Addr.mk b2 0 none)))] [.optr, .bool] fun r12 =>
 cond (!r12.2) (
 C.pur (Instr.build ty_impl_Store #[]) .agg fun y17 =>
 C.st 1 (Addr.mk b4 0 none) (.agg y17) <|
 C.ld .agg 1 (Addr.mk b4 0 none) fun z6 =>
 C.ret (.tuple #[(.agg z6), (.int .i64 1)])
 ) (
 C.ld .agg 32 (Addr.mk b3 0 none) fun v19 =>
 C.call n_ptr_spec_l05Store_find [(.pointer r12.1), (.agg v19)] [(.int .i64)] fun r20 =>
 cond (decide (r20 < 0)) (
 C.pur (Instr.build ty_impl_Store #[]) .agg fun y23 =>
 C.st 1 (Addr.mk b4 0 none) (.agg y23) <|
 C.ld .agg 1 (Addr.mk b4 0 none) fun z10 =>
 C.ret (.tuple #[(.agg z10), (.int .i64 6)])
 ) (
 dpT C r12.1 fun a11 =>
 C.ld .slice 1 (a11.add 1) fun v27 =>
 C.sem (Instr.makeSlice ty_sl_bool (.int .i64 (v27.n : Int)) (.int .i64 (v27.n : Int))) .slice fun y29 =>
 C.loop (TL [(.int .i64)]) (embL [(.int .i64)]) [(.int .i64 0)] fun s14 ct14 => C.any fun _ =>
 cond (decide (s14 < (y29.n : Int))) (
 C.ix y29.a y29.n 1 s14 fun p41 =>
 C.st 1 p41 (.bool (s14 != r20)) <|
 ct14 [(.int .i64 (IntKind.wrap .i64 (s14 + 1)))]
 ) (
 C.call n_ptr_spec_l05Store_keep [(.pointer r12.1), (.slice y29.a y29.n y29.c)] [.ptr] fun r44 =>
 C.call n_ptr_spec_l05Store_store [(.pointer (some r44))] [.agg] fun r45 =>
 C.st 1 (Addr.mk b4 0 none) (.agg r45) <|
 C.ld .agg 1 (Addr.mk b4 0 none) fun z18 =>
 C.ret (.tuple #[(.agg z18), (.int .i64 0)])
 )
 )
 )
theorem spec_DropBlob_eq (C : Comb) (x0 : Array Value) (x1 : Array Value) : fT C Tryz.prog ⟨[(9, [(10, (.int .i64))])], [], [], []⟩ n_spec_DropBlob [(.agg x0), (.agg x1)] = spec_DropBlob C x0 x1 := by kernel_rfl
theorem spec_DropBlob_calls {R : Value → World → Prop} {w : World} (x0 : Array Value) (x1 : Array Value) (h : (spec_DropBlob (real Tryz.prog R) x0 x1 : World → Prop) w) :
    Calls Tryz.prog n_spec_DropBlob [(.agg x0), (.agg x1)].toArray w fun e w' => ∃ v, e = .returned v ∧ R v w' := fT_sound mixed ⟨[(9, [(10, (.int .i64))])], [], [], []⟩ (by rw [spec_DropBlob_eq]; exact h)

def spec_l01End (C : Comb) (x0 : Array Value) (x1 : Sl) (x2 : Int) : C.St :=
 C.new ty_arr8_uint32 (.agg x0) fun b3 =>
 C.new ty_impl_Key (.agg (Array.replicate 32 (.int .u8 0))) fun b6 =>
 C.call n_spec_l01Padded [(.slice x1.a x1.n x1.c), (.int .i64 x2)] [.slice] fun r13 =>
 C.loop (TL [(.int .i64)]) (embL [(.int .i64)]) [(.int .i64 0)] fun s4 ct4 => C.any fun _ =>
 cond (decide (s4 < (r13.n : Int))) (
 C.draw <|
 C.ld .agg 8 (Addr.mk b3 0 none) fun v20 =>
 C.call n_spec_l01Block [(.slice r13.a r13.n r13.c), (.int .i64 s4)] [.agg] fun r23 =>
 C.chk [⟨0, 8, (Addr.mk b3 0 none), .agg, v20⟩] <|
 C.call n_spec_l01Mix [(.agg v20), (.agg r23)] [.agg] fun r24 =>
 C.st 8 (Addr.mk b3 0 none) (.agg r24) <|
 ct4 [(.int .i64 (IntKind.wrap .i64 (s4 + 32)))]
 ) (
 C.new ty_impl_Key (.agg (Array.replicate 32 (.int .u8 0))) fun b9 =>
 C.st 32 (Addr.mk b9 0 none) (.agg (Array.replicate 32 (.int .u8 0))) <|
 C.loop (TL [(.int .i64)]) (embL [(.int .i64)]) [(.int .i64 0)] fun s9 ct9 => C.any fun _ =>
 cond (decide (s9 < 32)) (
 C.ix (some (Addr.mk b3 0 none)) 8 1 (IntKind.wrap .i64 (Int.tdiv s9 4)) fun p33 =>
 C.ld (.int .u32) 1 p33 fun v34 =>
 C.pur (eqB .shr ty_uint32 (.tmp 34) (.tmp 38) (.int .u32 v34) (.int .u64 (IntKind.wrap .u64 ((IntKind.wrap .i64 (8 * (Int.tmod s9 4))))))) (.int .u32) fun y39 =>
 C.ix (some (Addr.mk b9 0 none)) 32 1 s9 fun p41 =>
 C.st 1 p41 (.int .u8 (IntKind.wrap .u8 (y39))) <|
 ct9 [(.int .i64 (IntKind.wrap .i64 (s9 + 1)))]
 ) (
 C.ld .agg 32 (Addr.mk b9 0 none) fun v42 =>
 C.st 32 (Addr.mk b6 0 none) (.agg v42) <|
 C.ld .agg 32 (Addr.mk b6 0 none) fun z15 =>
 C.ret (.agg z15)
 )
 )
theorem spec_l01End_eq (C : Comb) (x0 : Array Value) (x1 : Sl) (x2 : Int) : fT C Tryz.prog ⟨[(3, [(8, (.int .i64))]), (8, [(10, (.int .i64))])], [], [5], []⟩ n_spec_l01End [(.agg x0), (.slice x1.a x1.n x1.c), (.int .i64 x2)] = spec_l01End C x0 x1 x2 := by kernel_rfl
theorem spec_l01End_calls {R : Value → World → Prop} {w : World} (x0 : Array Value) (x1 : Sl) (x2 : Int) (h : (spec_l01End (real Tryz.prog R) x0 x1 x2 : World → Prop) w) :
    Calls Tryz.prog n_spec_l01End [(.agg x0), (.slice x1.a x1.n x1.c), (.int .i64 x2)].toArray w fun e w' => ∃ v, e = .returned v ∧ R v w' := fT_sound mixed ⟨[(3, [(8, (.int .i64))]), (8, [(10, (.int .i64))])], [], [5], []⟩ (by rw [spec_l01End_eq]; exact h)

def spec_l01Start (C : Comb) (x0 : Int) : C.St :=
 C.new ty_arr8_uint32 (.agg (Array.replicate 8 (.int .u32 0))) fun b2 =>
 C.new ty_arr8_uint32 (.agg (Array.replicate 8 (.int .u32 0))) fun b3 =>
 C.st 8 (Addr.mk b3 0 none) (.agg (Array.replicate 8 (.int .u32 0))) <|
 C.loop (TL [(.int .i64)]) (embL [(.int .i64)]) [(.int .i64 0)] fun s3 ct3 => C.any fun _ =>
 cond (decide (s3 < 8)) (
 C.ix (some (Addr.mk b3 0 none)) 8 1 s3 fun p18 =>
 C.st 1 p18 (.int .u32 (IntKind.wrap .u32 ((IntKind.wrap .u32 (16777619 * (IntKind.wrap .u32 ((IntKind.wrap .i64 (s3 + 1)))))) + (IntKind.wrap .u32 (x0))))) <|
 ct3 [(.int .i64 (IntKind.wrap .i64 (s3 + 1)))]
 ) (
 C.ld .agg 8 (Addr.mk b3 0 none) fun v19 =>
 C.st 8 (Addr.mk b2 0 none) (.agg v19) <|
 C.ld .agg 8 (Addr.mk b2 0 none) fun z6 =>
 C.ret (.agg z6)
 )
theorem spec_l01Start_eq (C : Comb) (x0 : Int) : fT C Tryz.prog ⟨[(3, [(4, (.int .i64))])], [], [], []⟩ n_spec_l01Start [(.int .u8 x0)] = spec_l01Start C x0 := by kernel_rfl
theorem spec_l01Start_calls {R : Value → World → Prop} {w : World} (x0 : Int) (h : (spec_l01Start (real Tryz.prog R) x0 : World → Prop) w) :
    Calls Tryz.prog n_spec_l01Start [(.int .u8 x0)].toArray w fun e w' => ∃ v, e = .returned v ∧ R v w' := fT_sound mixed ⟨[(3, [(4, (.int .i64))])], [], [], []⟩ (by rw [spec_l01Start_eq]; exact h)

def spec_l04Empty (C : Comb)  : C.St :=
 C.new ty_impl_Key (.agg (Array.replicate 32 (.int .u8 0))) fun b0 =>
 C.sem (Instr.buildSlice ty_sl_uint8 0 #[]) .slice fun y1 =>
 C.call n_spec_l01Hash [(.int .u8 5), (.slice y1.a y1.n y1.c)] [.agg] fun r2 =>
 C.st 32 (Addr.mk b0 0 none) (.agg r2) <|
 C.ld .agg 32 (Addr.mk b0 0 none) fun z4 =>
 C.ret (.agg z4)
theorem spec_l04Empty_eq (C : Comb)  : fT C Tryz.prog ⟨[], [], [], []⟩ n_spec_l04Empty [] = spec_l04Empty C  := by kernel_rfl
theorem spec_l04Empty_calls {R : Value → World → Prop} {w : World}  (h : (spec_l04Empty (real Tryz.prog R)  : World → Prop) w) :
    Calls Tryz.prog n_spec_l04Empty [].toArray w fun e w' => ∃ v, e = .returned v ∧ R v w' := fT_sound mixed ⟨[], [], [], []⟩ (by rw [spec_l04Empty_eq]; exact h)

def spec_l04Put (C : Comb) (x0 : Sl) (x1 : Array Value) : C.St :=
 C.new ty_impl_Entry (.agg x1) fun b3 =>
 C.sem (Instr.buildSlice ty_sl_impl_Entry 0 #[]) .slice fun y8 =>
 C.loop (TL [.slice, .bool, (.int .i64)]) (embL [.slice, .bool, (.int .i64)]) [(.slice y8.a y8.n y8.c), (.bool false), (.int .i64 0)] fun s3 ct3 => C.any fun _ =>
 cond (decide (s3.2.2 < (x0.n : Int))) (
 C.join (TL [.slice, .bool]) (embL [.slice, .bool]) (fun s11 => C.any fun _ =>
 C.draw <|
 C.ix x0.a x0.n 2 s3.2.2 fun p33 =>
 C.ld .str 1 (p33.add 0) fun v35 =>
 C.ld .str 1 ((Addr.mk b3 0 none).add 0) fun v37 =>
 C.pur (eqB .neq ty_string (.tmp 35) (.tmp 37) (.string v35) (.string v37)) .bool fun y38 =>
 cond y38 (
 C.ix x0.a x0.n 2 s3.2.2 fun p42 =>
 C.ld .agg 2 p42 fun v43 =>
 C.sem (Instr.buildSlice ty_sl_impl_Entry 1 #[(0, (.agg v43))]) .slice fun y44 =>
 C.sem (Builtin.append_ #[ty_sl_impl_Entry, ty_sl_impl_Entry] ty_sl_impl_Entry #[(.slice s11.1.a s11.1.n s11.1.c), (.slice y44.a y44.n y44.c)]) .slice fun y45 =>
 ct3 [(.slice y45.a y45.n y45.c), (.bool s11.2), (.int .i64 (IntKind.wrap .i64 (s3.2.2 + 1)))]
 ) (
 ct3 [(.slice s11.1.a s11.1.n s11.1.c), (.bool s11.2), (.int .i64 (IntKind.wrap .i64 (s3.2.2 + 1)))]
 )
 ) fun jt =>
 C.draw <|
 cond (!s3.2.1) (
 C.ix x0.a x0.n 2 s3.2.2 fun p20 =>
 C.ld .str 1 (p20.add 0) fun v22 =>
 C.ld .str 1 ((Addr.mk b3 0 none).add 0) fun v24 =>
 C.pur (eqB .geq ty_string (.tmp 22) (.tmp 24) (.string v22) (.string v24)) .bool fun y25 =>
 cond y25 (
 C.ld .agg 2 (Addr.mk b3 0 none) fun v28 =>
 C.sem (Instr.buildSlice ty_sl_impl_Entry 1 #[(0, (.agg v28))]) .slice fun y29 =>
 C.sem (Builtin.append_ #[ty_sl_impl_Entry, ty_sl_impl_Entry] ty_sl_impl_Entry #[(.slice s3.1.a s3.1.n s3.1.c), (.slice y29.a y29.n y29.c)]) .slice fun y30 =>
 jt [(.slice y30.a y30.n y30.c), (.bool true)]
 ) (
 jt [(.slice s3.1.a s3.1.n s3.1.c), (.bool s3.2.1)]
 )
 ) (
 jt [(.slice s3.1.a s3.1.n s3.1.c), (.bool s3.2.1)]
 )
 ) (
 cond (!s3.2.1) (
 C.ld .agg 2 (Addr.mk b3 0 none) fun v49 =>
 C.sem (Instr.buildSlice ty_sl_impl_Entry 1 #[(0, (.agg v49))]) .slice fun y50 =>
 C.sem (Builtin.append_ #[ty_sl_impl_Entry, ty_sl_impl_Entry] ty_sl_impl_Entry #[(.slice s3.1.a s3.1.n s3.1.c), (.slice y50.a y50.n y50.c)]) .slice fun y51 =>
 C.ret (.slice y51.a y51.n y51.c)
 ) (
 C.ret (.slice s3.1.a s3.1.n s3.1.c)
 )
 )
theorem spec_l04Put_eq (C : Comb) (x0 : Sl) (x1 : Array Value) : fT C Tryz.prog ⟨[(4, [(5, .slice), (6, .bool), (7, (.int .i64))])], [(78, [(5, .slice), (6, .bool)])], [], []⟩ n_spec_l04Put [(.slice x0.a x0.n x0.c), (.agg x1)] = spec_l04Put C x0 x1 := by kernel_rfl
theorem spec_l04Put_calls {R : Value → World → Prop} {w : World} (x0 : Sl) (x1 : Array Value) (h : (spec_l04Put (real Tryz.prog R) x0 x1 : World → Prop) w) :
    Calls Tryz.prog n_spec_l04Put [(.slice x0.a x0.n x0.c), (.agg x1)].toArray w fun e w' => ∃ v, e = .returned v ∧ R v w' := fT_sound mixed ⟨[(4, [(5, .slice), (6, .bool), (7, (.int .i64))])], [(78, [(5, .slice), (6, .bool)])], [], []⟩ (by rw [spec_l04Put_eq]; exact h)

def spec_l04DrawEntry (C : Comb) (x0 : Addr) : C.St :=
 C.new ty_impl_Entry (.agg (#[(.string (⟨#[]⟩ : ByteArray)), (.string (⟨#[]⟩ : ByteArray))])) fun b2 =>
 C.call n_spec_l04Names [] [.slice] fun r5 =>
 C.call n_ptr_spec_l00Src_text [(.pointer (some x0)), (.slice r5.a r5.n r5.c)] [.str] fun r6 =>
 C.sem (Instr.buildSlice ty_sl_string 5 #[(0, (.string (⟨#[]⟩ : ByteArray))), (1, (.string (⟨#[49]⟩ : ByteArray))), (2, (.string (⟨#[50]⟩ : ByteArray))), (3, (.string (⟨#[118, 97, 108, 117, 101]⟩ : ByteArray))), (4, (.string (⟨#[97, 110, 111, 116, 104, 101, 114, 32, 118, 97, 108, 117, 101]⟩ : ByteArray)))]) .slice fun y9 =>
 C.call n_ptr_spec_l00Src_text [(.pointer (some x0)), (.slice y9.a y9.n y9.c)] [.str] fun r10 =>
 C.pur (Instr.build ty_impl_Entry #[(0, (.string r6)), (1, (.string r10))]) .agg fun y11 =>
 C.st 2 (Addr.mk b2 0 none) (.agg y11) <|
 C.ld .agg 2 (Addr.mk b2 0 none) fun z7 =>
 C.ret (.agg z7)
theorem spec_l04DrawEntry_eq (C : Comb) (x0 : Addr) : fT C Tryz.prog ⟨[], [], [], []⟩ n_spec_l04DrawEntry [(.pointer (some x0))] = spec_l04DrawEntry C x0 := by kernel_rfl
theorem spec_l04DrawEntry_calls {R : Value → World → Prop} {w : World} (x0 : Addr) (h : (spec_l04DrawEntry (real Tryz.prog R) x0 : World → Prop) w) :
    Calls Tryz.prog n_spec_l04DrawEntry [(.pointer (some x0))].toArray w fun e w' => ∃ v, e = .returned v ∧ R v w' := fT_sound mixed ⟨[], [], [], []⟩ (by rw [spec_l04DrawEntry_eq]; exact h)

def slices_Concat_sl_byte_byte (C : Comb) (x0 : Sl) : C.St :=
 C.loop (TL [(.int .i64), (.int .i64)]) (embL [(.int .i64), (.int .i64)]) [(.int .i64 0), (.int .i64 0)] fun s1 ct1 => C.any fun _ =>
 cond (decide (s1.2 < (x0.n : Int))) (
 C.ix x0.a x0.n 1 s1.2 fun p13 =>
 C.ld .slice 1 p13 fun v14 =>
 cond (decide ((IntKind.wrap .i64 (s1.1 + (v14.n : Int))) < 0)) (
 C.pur (Instr.makeInterface ty_string (.string (⟨#[108, 101, 110, 32, 111, 117, 116, 32, 111, 102, 32, 114, 97, 110, 103, 101]⟩ : ByteArray))) .val fun y21 =>
 C.fail
 ) (
 ct1 [(.int .i64 (IntKind.wrap .i64 (s1.1 + (v14.n : Int)))), (.int .i64 (IntKind.wrap .i64 (s1.2 + 1)))]
 )
 ) (
 C.call n_slices_Grow_sl_byte_byte [(.slice none 0 0), (.int .i64 s1.1)] [.slice] fun r24 =>
 C.loop (TL [.slice, (.int .i64)]) (embL [.slice, (.int .i64)]) [(.slice r24.a r24.n r24.c), (.int .i64 0)] fun s6 ct6 => C.any fun _ =>
 cond (decide (s6.2 < (x0.n : Int))) (
 C.ix x0.a x0.n 1 s6.2 fun p29 =>
 C.ld .slice 1 p29 fun v30 =>
 C.sem (Builtin.append_ #[ty_sl_uint8, ty_sl_uint8] ty_sl_uint8 #[(.slice s6.1.a s6.1.n s6.1.c), (.slice v30.a v30.n v30.c)]) .slice fun y33 =>
 ct6 [(.slice y33.a y33.n y33.c), (.int .i64 (IntKind.wrap .i64 (s6.2 + 1)))]
 ) (
 C.ret (.slice s6.1.a s6.1.n s6.1.c)
 )
 )
theorem slices_Concat_sl_byte_byte_eq (C : Comb) (x0 : Sl) : fT C Tryz.prog ⟨[(3, [(3, (.int .i64)), (11, (.int .i64))]), (11, [(6, .slice), (27, (.int .i64))])], [], [], []⟩ n_slices_Concat_sl_byte_byte [(.slice x0.a x0.n x0.c)] = slices_Concat_sl_byte_byte C x0 := by kernel_rfl
theorem slices_Concat_sl_byte_byte_calls {R : Value → World → Prop} {w : World} (x0 : Sl) (h : (slices_Concat_sl_byte_byte (real Tryz.prog R) x0 : World → Prop) w) :
    Calls Tryz.prog n_slices_Concat_sl_byte_byte [(.slice x0.a x0.n x0.c)].toArray w fun e w' => ∃ v, e = .returned v ∧ R v w' := fT_sound mixed ⟨[(3, [(3, (.int .i64)), (11, (.int .i64))]), (11, [(6, .slice), (27, (.int .i64))])], [], [], []⟩ (by rw [slices_Concat_sl_byte_byte_eq]; exact h)

end Go.Proofs.YtkifkdkjljcclaaGreat
