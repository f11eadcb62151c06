/- Printed by a program of this claim's author: each Go function as a Lean function over abstract combinators, and the equation that says that T makes it of the loaded code. -/
import Derived.Test.YtkifkdkjljcclaaGreatProg
import Derived.Test.YtkifkdkjljcclaaGreatPkLPR06
namespace Go.Proofs.YtkifkdkjljcclaaGreat
open Go.Sx
def spec_l05Links (C : Comb) (x0 : Addr) : C.St :=
 C.ld .slice 1 (x0.add 1) fun v10 =>
 C.ld (.int .u8) 1 (x0.add 0) fun v15 =>
 cond (v15 == 2) (
 cond ((v10.n : Int) == 64) (
 C.ld .slice 1 (x0.add 1) fun v23 =>
 C.call n_spec_l05Keys [(.slice v23.a v23.n v23.c), (.int .i64 0), (.int .i64 2)] [.slice] fun r24 =>
 C.ret (.slice r24.a r24.n r24.c)
 ) (
 C.sem (Instr.buildSlice ty_sl_impl_Key 0 #[]) .slice fun y102 =>
 C.ret (.slice y102.a y102.n y102.c)
 )
 ) (
 cond (v15 == 5) (
 C.sem (Instr.buildSlice ty_sl_impl_Key 0 #[]) .slice fun y27 =>
 C.ld .slice 1 (x0.add 1) fun v32 =>
 C.call n_spec_l04Read [(.slice v32.a v32.n v32.c)] [.agg, .bool] fun r33 =>
 C.new ty_impl_MapNode (.agg (#[(.int .u8 0), (.int .u8 0), (.int .u8 0), (.int .u8 0), (.int .u8 0), (.int .u8 0), (.int .u8 0), (.int .u8 0), (.int .u8 0), (.int .u8 0), (.int .u8 0), (.int .u8 0), (.int .u8 0), (.int .u8 0), (.int .u8 0), (.int .u8 0), (.int .u8 0), (.int .u8 0), (.int .u8 0), (.int .u8 0), (.int .u8 0), (.int .u8 0), (.int .u8 0), (.int .u8 0), (.int .u8 0), (.int .u8 0), (.int .u8 0), (.int .u8 0), (.int .u8 0), (.int .u8 0), (.int .u8 0), (.int .u8 0), (.int .u8 0), (.int .u8 0), (.int .u8 0), (.int .u8 0), (.int .u8 0), (.int .u8 0), (.int .u8 0), (.int .u8 0), (.int .u8 0), (.int .u8 0), (.int .u8 0), (.int .u8 0), (.int .u8 0), (.int .u8 0), (.int .u8 0), (.int .u8 0), (.int .u8 0), (.int .u8 0), (.int .u8 0), (.int .u8 0), (.int .u8 0), (.int .u8 0), (.int .u8 0), (.int .u8 0), (.int .u8 0), (.int .u8 0), (.int .u8 0), (.int .u8 0), (.int .u8 0), (.int .u8 0), (.int .u8 0), (.int .u8 0), (.string (⟨#[]⟩ : ByteArray)), (.string (⟨#[]⟩ : ByteArray))])) fun b5 =>
 C.st 66 (Addr.mk b5 0 none) (.agg r33.1) <|
 C.join (TL [.slice]) (embL [.slice]) (fun s22 => C.any fun _ =>
 C.draw <|
 cond r33.2 (
 C.all [
 (C.ld .agg 32 ((Addr.mk b5 0 none).add 32) fun v51 =>
 C.call n_spec_l04Empty [] [.agg] fun r52 =>
 C.pur (eqB .neq ty_impl_Key (.tmp 51) (.tmp 52) (.agg v51) (.agg r52)) .bool fun y53 =>
 cond y53 (
 C.ld .agg 32 ((Addr.mk b5 0 none).add 32) fun v57 =>
 C.sem (Instr.buildSlice ty_sl_impl_Key 1 #[(0, (.agg v57))]) .slice fun y58 =>
 C.sem (Builtin.append_ #[ty_sl_impl_Key, ty_sl_impl_Key] ty_sl_impl_Key #[(.slice s22.a s22.n s22.c), (.slice y58.a y58.n y58.c)]) .slice fun y59 =>
 C.ret (.slice y59.a y59.n y59.c)
 ) (
 C.ret (.slice s22.a s22.n s22.c)
 )),
 (C.call n_spec_l04Empty [] [.agg] fun r52 =>
 C.ld .agg 32 ((Addr.mk b5 0 none).add 32) fun v51 =>
 C.pur (eqB .neq ty_impl_Key (.tmp 51) (.tmp 52) (.agg v51) (.agg r52)) .bool fun y53 =>
 cond y53 (
 C.ld .agg 32 ((Addr.mk b5 0 none).add 32) fun v57 =>
 C.sem (Instr.buildSlice ty_sl_impl_Key 1 #[(0, (.agg v57))]) .slice fun y58 =>
 C.sem (Builtin.append_ #[ty_sl_impl_Key, ty_sl_impl_Key] ty_sl_impl_Key #[(.slice s22.a s22.n s22.c), (.slice y58.a y58.n y58.c)]) .slice fun y59 =>
 C.ret (.slice y59.a y59.n y59.c)
 ) (
 C.ret (.slice s22.a s22.n s22.c)
 ))]
 ) (
 C.all [
 (C.ret (.slice s22.a s22.n s22.c)),
 (C.ret (.slice s22.a s22.n s22.c))]
 )
 ) fun jt =>
 C.draw <|
 cond r33.2 (
 C.all [
 (C.ld .agg 32 ((Addr.mk b5 0 none).add 0) fun v39 =>
 C.call n_spec_l04Empty [] [.agg] fun r40 =>
 C.pur (eqB .neq ty_impl_Key (.tmp 39) (.tmp 40) (.agg v39) (.agg r40)) .bool fun y41 =>
 cond y41 (
 C.ld .agg 32 ((Addr.mk b5 0 none).add 0) fun v45 =>
 C.sem (Instr.buildSlice ty_sl_impl_Key 1 #[(0, (.agg v45))]) .slice fun y46 =>
 C.sem (Builtin.append_ #[ty_sl_impl_Key, ty_sl_impl_Key] ty_sl_impl_Key #[(.slice y27.a y27.n y27.c), (.slice y46.a y46.n y46.c)]) .slice fun y47 =>
 jt [(.slice y47.a y47.n y47.c)]
 ) (
 jt [(.slice y27.a y27.n y27.c)]
 )),
 (C.call n_spec_l04Empty [] [.agg] fun r40 =>
 C.ld .agg 32 ((Addr.mk b5 0 none).add 0) fun v39 =>
 C.pur (eqB .neq ty_impl_Key (.tmp 39) (.tmp 40) (.agg v39) (.agg r40)) .bool fun y41 =>
 cond y41 (
 C.ld .agg 32 ((Addr.mk b5 0 none).add 0) fun v45 =>
 C.sem (Instr.buildSlice ty_sl_impl_Key 1 #[(0, (.agg v45))]) .slice fun y46 =>
 C.sem (Builtin.append_ #[ty_sl_impl_Key, ty_sl_impl_Key] ty_sl_impl_Key #[(.slice y27.a y27.n y27.c), (.slice y46.a y46.n y46.c)]) .slice fun y47 =>
 jt [(.slice y47.a y47.n y47.c)]
 ) (
 jt [(.slice y27.a y27.n y27.c)]
 ))]
 ) (
 C.all [
 (jt [(.slice y27.a y27.n y27.c)]),
 (jt [(.slice y27.a y27.n y27.c)])]
 )
 ) (
 cond (v15 == 6) (
 cond ((Int.tmod (v10.n : Int) 32) == 0) (
 C.ld .slice 1 (x0.add 1) fun v69 =>
 C.call n_spec_l05Keys [(.slice v69.a v69.n v69.c), (.int .i64 0), (.int .i64 (IntKind.wrap .i64 (Int.tdiv (v10.n : Int) 32)))] [.slice] fun r72 =>
 C.ret (.slice r72.a r72.n r72.c)
 ) (
 C.sem (Instr.buildSlice ty_sl_impl_Key 0 #[]) .slice fun y102 =>
 C.ret (.slice y102.a y102.n y102.c)
 )
 ) (
 cond (v15 == 7) (
 C.join (TL [.bool]) (embL [.bool]) (fun s41 => C.any fun _ =>
 cond s41 (
 C.draw <|
 C.ld .slice 1 (x0.add 1) fun v93 =>
 C.ld .slice 1 (x0.add 1) fun v97 =>
 C.ix v97.a v97.n 1 0 fun p98 =>
 C.ld (.int .u8) 1 p98 fun v99 =>
 C.call n_spec_l05Keys [(.slice v93.a v93.n v93.c), (.int .i64 1), (.int .i64 (IntKind.wrap .i64 (v99)))] [.slice] fun r101 =>
 C.chk [⟨9, 1, p98, (.int .u8), v99⟩, ⟨7, 1, (x0.add 1), .slice, v97⟩] <|
 C.ret (.slice r101.a r101.n r101.c)
 ) (
 C.sem (Instr.buildSlice ty_sl_impl_Key 0 #[]) .slice fun y102 =>
 C.ret (.slice y102.a y102.n y102.c)
 )
 ) fun jt =>
 cond (decide ((v10.n : Int) > 0)) (
 C.ld .slice 1 (x0.add 1) fun v82 =>
 C.ix v82.a v82.n 1 0 fun p83 =>
 C.ld (.int .u8) 1 p83 fun v84 =>
 jt [(.bool (decide ((v10.n : Int) ≥ (IntKind.wrap .i64 (1 + (IntKind.wrap .i64 (32 * (IntKind.wrap .i64 (v84)))))))))]
 ) (
 jt [(.bool false)]
 )
 ) (
 C.sem (Instr.buildSlice ty_sl_impl_Key 0 #[]) .slice fun y102 =>
 C.ret (.slice y102.a y102.n y102.c)
 )
 )
 )
 )
theorem spec_l05Links_eq (C : Comb) (x0 : Addr) : fT C Tryz.prog ⟨[], [(126, [(4, .slice)]), (55, [(89, .bool)])], [9, 11, 19], []⟩ n_spec_l05Links [(.pointer (some x0))] = spec_l05Links C x0 := by kernel_rfl
theorem spec_l05Links_calls {R : Value → World → Prop} {w : World} (x0 : Addr) (h : (spec_l05Links (real Tryz.prog R) x0 : World → Prop) w) :
    Calls Tryz.prog n_spec_l05Links [(.pointer (some x0))].toArray w fun e w' => ∃ v, e = .returned v ∧ R v w' := fT_sound mixed ⟨[], [(126, [(4, .slice)]), (55, [(89, .bool)])], [9, 11, 19], []⟩ (by rw [spec_l05Links_eq]; exact h)

def impl_ValidBlob (C : Comb) (x0 : Array Value) : C.St :=
 C.new ty_impl_Blob (.agg x0) fun b1 =>
 C.ld .slice 1 ((Addr.mk b1 0 none).add 1) fun v4 =>
 C.ret (.bool (decide ((v4.n : Int) ≤ 1024)))
theorem impl_ValidBlob_eq (C : Comb) (x0 : Array Value) : fT C Tryz.prog ⟨[], [], [], []⟩ n_impl_ValidBlob [(.agg x0)] = impl_ValidBlob C x0 := by kernel_rfl
theorem impl_ValidBlob_calls {R : Value → World → Prop} {w : World} (x0 : Array Value) (h : (impl_ValidBlob (real Tryz.prog R) x0 : World → Prop) w) :
    Calls Tryz.prog n_impl_ValidBlob [(.agg x0)].toArray w fun e w' => ∃ v, e = .returned v ∧ R v w' := fT_sound mixed ⟨[], [], [], []⟩ (by rw [impl_ValidBlob_eq]; exact h)

def impl_Blob_key (C : Comb) (x0 : Array Value) : C.St :=
 C.new ty_impl_Blob (.agg x0) fun b1 =>
 C.new ty_impl_Key (.agg (Array.replicate 32 (.int .u8 0))) fun b2 =>
 C.ld (.int .u8) 1 ((Addr.mk b1 0 none).add 0) fun v4 =>
 C.ld .slice 1 ((Addr.mk b1 0 none).add 1) fun v6 =>
 C.call n_impl_hash [(.int .u8 v4), (.slice v6.a v6.n v6.c)] [.agg] fun r7 =>
 C.st 32 (Addr.mk b2 0 none) (.agg r7) <|
 C.ld .agg 32 (Addr.mk b2 0 none) fun z6 =>
 C.ret (.agg z6)
theorem impl_Blob_key_eq (C : Comb) (x0 : Array Value) : fT C Tryz.prog ⟨[], [], [], []⟩ n_impl_Blob_key [(.agg x0)] = impl_Blob_key C x0 := by kernel_rfl
theorem impl_Blob_key_calls {R : Value → World → Prop} {w : World} (x0 : Array Value) (h : (impl_Blob_key (real Tryz.prog R) x0 : World → Prop) w) :
    Calls Tryz.prog n_impl_Blob_key [(.agg x0)].toArray w fun e w' => ∃ v, e = .returned v ∧ R v w' := fT_sound mixed ⟨[], [], [], []⟩ (by rw [impl_Blob_key_eq]; exact h)

def spec_l05Blob (C : Comb) (x0 : Addr) : C.St :=
 C.ld .slice 1 (x0.add 1) fun v6 =>
 C.ret (.bool (decide ((v6.n : Int) ≤ 1024)))
theorem spec_l05Blob_eq (C : Comb) (x0 : Addr) : fT C Tryz.prog ⟨[], [], [], []⟩ n_spec_l05Blob [(.pointer (some x0))] = spec_l05Blob C x0 := by kernel_rfl
theorem spec_l05Blob_calls {R : Value → World → Prop} {w : World} (x0 : Addr) (h : (spec_l05Blob (real Tryz.prog R) x0 : World → Prop) w) :
    Calls Tryz.prog n_spec_l05Blob [(.pointer (some x0))].toArray w fun e w' => ∃ v, e = .returned v ∧ R v w' := fT_sound mixed ⟨[], [], [], []⟩ (by rw [spec_l05Blob_eq]; exact h)

def spec_l05Key (C : Comb) (x0 : Addr) : C.St :=
 C.new ty_impl_Key (.agg (Array.replicate 32 (.int .u8 0))) fun b2 =>
 C.draw <|
 C.ld (.int .u8) 1 (x0.add 0) fun v6 =>
 C.ld .slice 1 (x0.add 1) fun v10 =>
 C.call n_spec_l01Hash [(.int .u8 v6), (.slice v10.a v10.n v10.c)] [.agg] fun r11 =>
 C.st 32 (Addr.mk b2 0 none) (.agg r11) <|
 C.ld .agg 32 (Addr.mk b2 0 none) fun z5 =>
 C.ret (.agg z5)
theorem spec_l05Key_eq (C : Comb) (x0 : Addr) : fT C Tryz.prog ⟨[], [], [1], []⟩ n_spec_l05Key [(.pointer (some x0))] = spec_l05Key C x0 := by kernel_rfl
theorem spec_l05Key_calls {R : Value → World → Prop} {w : World} (x0 : Addr) (h : (spec_l05Key (real Tryz.prog R) x0 : World → Prop) w) :
    Calls Tryz.prog n_spec_l05Key [(.pointer (some x0))].toArray w fun e w' => ∃ v, e = .returned v ∧ R v w' := fT_sound mixed ⟨[], [], [1], []⟩ (by rw [spec_l05Key_eq]; exact h)

def spec_l06Delta (C : Comb) (x0 : Sl) (x1 : Sl) : C.St :=
 C.sem (Instr.buildSlice ty_sl_uint8 0 #[]) .slice fun y13 =>
 C.sem (Instr.buildSlice ty_sl_uint8 0 #[]) .slice fun y14 =>
 C.loop (TL [.slice, .slice, (.int .i64)]) (embL [.slice, .slice, (.int .i64)]) [(.slice y13.a y13.n y13.c), (.slice y14.a y14.n y14.c), (.int .i64 0)] fun s3 ct3 => C.any fun _ =>
 cond (decide (s3.2.2 < (x1.n : Int))) (
 C.loop (TL [(.int .i64), (.int .i64), (.int .i64)]) (embL [(.int .i64), (.int .i64), (.int .i64)]) [(.int .i64 0), (.int .i64 0), (.int .i64 0)] fun s4 ct4 => C.any fun _ =>
 cond (decide (s4.2.2 < (x0.n : Int))) (
 C.join (TL [(.int .i64)]) (embL [(.int .i64)]) (fun s8 => C.any fun _ =>
 cond (decide (s8 > s4.1)) (
 ct4 [(.int .i64 s8), (.int .i64 s4.2.2), (.int .i64 (IntKind.wrap .i64 (s4.2.2 + 1)))]
 ) (
 ct4 [(.int .i64 s4.1), (.int .i64 s4.2.1), (.int .i64 (IntKind.wrap .i64 (s4.2.2 + 1)))]
 )
 ) fun jt =>
 C.draw <|
 C.sl x0.a x0.n x0.c 1 (some s4.2.2) none none fun y27 =>
 C.sl x1.a x1.n x1.c 1 (some s3.2.2) none none fun y30 =>
 C.call n_spec_l06Match [(.slice y27.a y27.n y27.c), (.slice y30.a y30.n y30.c)] [(.int .i64)] fun r31 =>
 jt [(.int .i64 r31)]
 ) (
 cond (decide (s4.1 < 8)) (
 C.ix x1.a x1.n 1 s3.2.2 fun p42 =>
 C.ld (.int .u8) 1 p42 fun v43 =>
 C.sem (Instr.buildSlice ty_sl_uint8 1 #[(0, (.int .u8 v43))]) .slice fun y44 =>
 C.sem (Builtin.append_ #[ty_sl_uint8, ty_sl_uint8] ty_sl_uint8 #[(.slice s3.2.1.a s3.2.1.n s3.2.1.c), (.slice y44.a y44.n y44.c)]) .slice fun y45 =>
 ct3 [(.slice s3.1.a s3.1.n s3.1.c), (.slice y45.a y45.n y45.c), (.int .i64 (IntKind.wrap .i64 (s3.2.2 + 1)))]
 ) (
 C.call n_spec_l06Plain [(.slice s3.1.a s3.1.n s3.1.c), (.slice s3.2.1.a s3.2.1.n s3.2.1.c)] [.slice] fun r50 =>
 C.sem (Instr.buildSlice ty_sl_uint8 0 #[]) .slice fun y51 =>
 C.sem (Instr.buildSlice ty_sl_uint8 4 #[(0, (.int .u8 1)), (1, (.int .u8 (IntKind.wrap .u8 ((Int.tmod s4.2.1 256))))), (2, (.int .u8 (IntKind.wrap .u8 ((IntKind.wrap .i64 (Int.tdiv s4.2.1 256)))))), (3, (.int .u8 (IntKind.wrap .u8 (s4.1))))]) .slice fun y61 =>
 C.sem (Builtin.append_ #[ty_sl_uint8, ty_sl_uint8] ty_sl_uint8 #[(.slice r50.a r50.n r50.c), (.slice y61.a y61.n y61.c)]) .slice fun y62 =>
 ct3 [(.slice y62.a y62.n y62.c), (.slice y51.a y51.n y51.c), (.int .i64 (IntKind.wrap .i64 (s3.2.2 + s4.1)))]
 )
 )
 ) (
 C.call n_spec_l06Plain [(.slice s3.1.a s3.1.n s3.1.c), (.slice s3.2.1.a s3.2.1.n s3.2.1.c)] [.slice] fun r68 =>
 C.ret (.tuple #[(.slice r68.a r68.n r68.c), (.bool (decide ((r68.n : Int) ≤ 1024)))])
 )
theorem spec_l06Delta_eq (C : Comb) (x0 : Sl) (x1 : Sl) : fT C Tryz.prog ⟨[(4, [(6, .slice), (7, .slice), (8, (.int .i64))]), (8, [(9, (.int .i64)), (10, (.int .i64)), (11, (.int .i64))])], [(31, [(12, (.int .i64))])], [10], []⟩ n_spec_l06Delta [(.slice x0.a x0.n x0.c), (.slice x1.a x1.n x1.c)] = spec_l06Delta C x0 x1 := by kernel_rfl
theorem spec_l06Delta_calls {R : Value → World → Prop} {w : World} (x0 : Sl) (x1 : Sl) (h : (spec_l06Delta (real Tryz.prog R) x0 x1 : World → Prop) w) :
    Calls Tryz.prog n_spec_l06Delta [(.slice x0.a x0.n x0.c), (.slice x1.a x1.n x1.c)].toArray w fun e w' => ∃ v, e = .returned v ∧ R v w' := fT_sound mixed ⟨[(4, [(6, .slice), (7, .slice), (8, (.int .i64))]), (8, [(9, (.int .i64)), (10, (.int .i64)), (11, (.int .i64))])], [(31, [(12, (.int .i64))])], [10], []⟩ (by rw [spec_l06Delta_eq]; exact h)

def impl_DeltaOf (C : Comb) (x0 : Sl) (x1 : Sl) : C.St :=
 C.join (TL []) (embL []) (fun s1 => C.any fun _ =>
 C.call n_impl_delta [(.slice x0.a x0.n x0.c), (.slice x1.a x1.n x1.c)] [.slice] fun r17 =>
 cond (decide ((r17.n : Int) > 1024)) (
 C.ret (.tuple #[(.slice none 0 0), (.int .i64 3)])
 ) (
 C.ret (.tuple #[(.slice r17.a r17.n r17.c), (.int .i64 0)])
 )
 ) fun jt =>
 cond (decide ((x0.n : Int) > 1024)) (
 C.ret (.tuple #[(.slice none 0 0), (.int .i64 3)])
 ) (
 cond (decide ((x1.n : Int) > 1024)) (
 C.ret (.tuple #[(.slice none 0 0), (.int .i64 3)])
 ) (
 jt []
 )
 )
theorem impl_DeltaOf_eq (C : Comb) (x0 : Sl) (x1 : Sl) : fT C Tryz.prog ⟨[], [(42, [])], [], []⟩ n_impl_DeltaOf [(.slice x0.a x0.n x0.c), (.slice x1.a x1.n x1.c)] = impl_DeltaOf C x0 x1 := by kernel_rfl
theorem impl_DeltaOf_calls {R : Value → World → Prop} {w : World} (x0 : Sl) (x1 : Sl) (h : (impl_DeltaOf (real Tryz.prog R) x0 x1 : World → Prop) w) :
    Calls Tryz.prog n_impl_DeltaOf [(.slice x0.a x0.n x0.c), (.slice x1.a x1.n x1.c)].toArray w fun e w' => ∃ v, e = .returned v ∧ R v w' := fT_sound mixed ⟨[], [(42, [])], [], []⟩ (by rw [impl_DeltaOf_eq]; exact h)

def impl_appendLittle (C : Comb) (x0 : Sl) (x1 : Int) (x2 : Int) : C.St :=
 C.loop (TL [.slice, (.int .i64)]) (embL [.slice, (.int .i64)]) [(.slice x0.a x0.n x0.c), (.int .i64 0)] fun s1 ct1 => C.any fun _ =>
 cond (decide (s1.2 < x2)) (
 C.pur (eqB .shr ty_uint64 (.tmp 13) (.tmp 15) (.int .u64 x1) (.int .i64 (IntKind.wrap .i64 (8 * s1.2)))) (.int .u64) fun y16 =>
 C.sem (Instr.buildSlice ty_sl_uint8 1 #[(0, (.int .u8 (IntKind.wrap .u8 (y16))))]) .slice fun y18 =>
 C.sem (Builtin.append_ #[ty_sl_uint8, ty_sl_uint8] ty_sl_uint8 #[(.slice s1.1.a s1.1.n s1.1.c), (.slice y18.a y18.n y18.c)]) .slice fun y19 =>
 ct1 [(.slice y19.a y19.n y19.c), (.int .i64 (IntKind.wrap .i64 (s1.2 + 1)))]
 ) (
 C.ret (.slice s1.1.a s1.1.n s1.1.c)
 )
theorem impl_appendLittle_eq (C : Comb) (x0 : Sl) (x1 : Int) (x2 : Int) : fT C Tryz.prog ⟨[(2, [(0, .slice), (9, (.int .i64))])], [], [], []⟩ n_impl_appendLittle [(.slice x0.a x0.n x0.c), (.int .u64 x1), (.int .i64 x2)] = impl_appendLittle C x0 x1 x2 := by kernel_rfl
theorem impl_appendLittle_calls {R : Value → World → Prop} {w : World} (x0 : Sl) (x1 : Int) (x2 : Int) (h : (impl_appendLittle (real Tryz.prog R) x0 x1 x2 : World → Prop) w) :
    Calls Tryz.prog n_impl_appendLittle [(.slice x0.a x0.n x0.c), (.int .u64 x1), (.int .i64 x2)].toArray w fun e w' => ∃ v, e = .returned v ∧ R v w' := fT_sound mixed ⟨[(2, [(0, .slice), (9, (.int .i64))])], [], [], []⟩ (by rw [impl_appendLittle_eq]; exact h)

def impl_hash (C : Comb) (x0 : Int) (x1 : Sl) : C.St :=
 C.new ty_impl_Key (.agg (Array.replicate 32 (.int .u8 0))) fun b4 =>
 C.call n_impl_size_byte [(.slice x1.a x1.n x1.c)] [(.int .i64)] fun r10 =>
 C.call n_impl_padding [(.int .i64 r10)] [.slice] fun r11 =>
 C.sem (Instr.buildSlice ty_sl_sl_uint8 2 #[(0, (.slice x1.a x1.n x1.c)), (1, (.slice r11.a r11.n r11.c))]) .slice fun y12 =>
 C.call n_slices_Concat_sl_byte_byte [(.slice y12.a y12.n y12.c)] [.slice] fun r13 =>
 C.call n_impl_blocks [(.slice r13.a r13.n r13.c)] [.slice, .slice] fun r14 =>
 C.call n_impl_StartState [(.int .u8 x0)] [.agg] fun r18 =>
 C.call n_impl_mixed [(.agg r18), (.slice r14.1.a r14.1.n r14.1.c)] [.agg] fun r20 =>
 C.call n_impl_keyOf [(.agg r20)] [.agg] fun r21 =>
 C.st 32 (Addr.mk b4 0 none) (.agg r21) <|
 C.ld .agg 32 (Addr.mk b4 0 none) fun z10 =>
 C.ret (.agg z10)
theorem impl_hash_eq (C : Comb) (x0 : Int) (x1 : Sl) : fT C Tryz.prog ⟨[], [], [], []⟩ n_impl_hash [(.int .u8 x0), (.slice x1.a x1.n x1.c)] = impl_hash C x0 x1 := by kernel_rfl
theorem impl_hash_calls {R : Value → World → Prop} {w : World} (x0 : Int) (x1 : Sl) (h : (impl_hash (real Tryz.prog R) x0 x1 : World → Prop) w) :
    Calls Tryz.prog n_impl_hash [(.int .u8 x0), (.slice x1.a x1.n x1.c)].toArray w fun e w' => ∃ v, e = .returned v ∧ R v w' := fT_sound mixed ⟨[], [], [], []⟩ (by rw [impl_hash_eq]; exact h)

def slices_Compact_sl_impl_Key_impl_Key (C : Comb) (x0 : Sl) : C.St :=
 cond (decide ((x0.n : Int) < 2)) (
 C.ret (.slice x0.a x0.n x0.c)
 ) (
 C.loop (TL [(.int .i64)]) (embL [(.int .i64)]) [(.int .i64 1)] fun s1 ct1 => C.any fun _ =>
 cond (decide (s1 < (x0.n : Int))) (
 C.draw <|
 C.ix x0.a x0.n 32 s1 fun p18 =>
 C.ld .agg 32 p18 fun v19 =>
 C.ix x0.a x0.n 32 (IntKind.wrap .i64 (s1 - 1)) fun p23 =>
 C.ld .agg 32 p23 fun v24 =>
 C.pur (eqB .eql ty_impl_Key (.tmp 19) (.tmp 24) (.agg v19) (.agg v24)) .bool fun y25 =>
 cond y25 (
 C.sl x0.a x0.n x0.c 32 (some s1) none none fun y28 =>
 C.loop (TL [(.int .i64), (.int .i64)]) (embL [(.int .i64), (.int .i64)]) [(.int .i64 s1), (.int .i64 1)] fun s8 ct8 => C.any fun _ =>
 cond (decide (s8.2 < (y28.n : Int))) (
 C.draw <|
 C.ix y28.a y28.n 32 s8.2 fun p37 =>
 C.ld .agg 32 p37 fun v38 =>
 C.ix y28.a y28.n 32 (IntKind.wrap .i64 (s8.2 - 1)) fun p42 =>
 C.ld .agg 32 p42 fun v43 =>
 C.pur (eqB .neq ty_impl_Key (.tmp 38) (.tmp 43) (.agg v38) (.agg v43)) .bool fun y44 =>
 cond y44 (
 C.ix y28.a y28.n 32 s8.2 fun p49 =>
 C.ld .agg 32 p49 fun v50 =>
 C.ix x0.a x0.n 32 s8.1 fun p51 =>
 C.st 32 p51 (.agg v50) <|
 ct8 [(.int .i64 (IntKind.wrap .i64 (s8.1 + 1))), (.int .i64 (IntKind.wrap .i64 (s8.2 + 1)))]
 ) (
 ct8 [(.int .i64 s8.1), (.int .i64 (IntKind.wrap .i64 (s8.2 + 1)))]
 )
 ) (
 C.sl x0.a x0.n x0.c 32 (some s8.1) none none fun y56 =>
 C.sem (Builtin.clear_ #[ty_sl_impl_Key] ty_x #[(.slice y56.a y56.n y56.c)]) .val fun yq18 =>
 C.sl x0.a x0.n x0.c 32 none (some s8.1) none fun y59 =>
 C.ret (.slice y59.a y59.n y59.c)
 )
 ) (
 ct1 [(.int .i64 (IntKind.wrap .i64 (s1 + 1)))]
 )
 ) (
 C.ret (.slice x0.a x0.n x0.c)
 )
 )
theorem slices_Compact_sl_impl_Key_impl_Key_eq (C : Comb) (x0 : Sl) : fT C Tryz.prog ⟨[(4, [(3, (.int .i64))]), (9, [(3, (.int .i64)), (5, (.int .i64))])], [], [], []⟩ n_slices_Compact_sl_impl_Key_impl_Key [(.slice x0.a x0.n x0.c)] = slices_Compact_sl_impl_Key_impl_Key C x0 := by kernel_rfl
theorem slices_Compact_sl_impl_Key_impl_Key_calls {R : Value → World → Prop} {w : World} (x0 : Sl) (h : (slices_Compact_sl_impl_Key_impl_Key (real Tryz.prog R) x0 : World → Prop) w) :
    Calls Tryz.prog n_slices_Compact_sl_impl_Key_impl_Key [(.slice x0.a x0.n x0.c)].toArray w fun e w' => ∃ v, e = .returned v ∧ R v w' := fT_sound mixed ⟨[(4, [(3, (.int .i64))]), (9, [(3, (.int .i64)), (5, (.int .i64))])], [], [], []⟩ (by rw [slices_Compact_sl_impl_Key_impl_Key_eq]; exact h)

def slices_IndexFunc_sl_impl_Key_impl_Key (C : Comb) (x0 : Sl) (x1 : Value) : C.St :=
 C.loop (TL [(.int .i64)]) (embL [(.int .i64)]) [(.int .i64 0)] fun s1 ct1 => C.any fun _ =>
 cond (decide (s1 < (x0.n : Int))) (
 C.ix x0.a x0.n 32 s1 fun p14 =>
 C.ld .agg 32 p14 fun v15 =>
 C.callV x1 [(.agg v15)] [.bool] fun r16 =>
 cond r16 (
 C.ret (.int .i64 s1)
 ) (
 ct1 [(.int .i64 (IntKind.wrap .i64 (s1 + 1)))]
 )
 ) (
 C.ret (.int .i64 (-1))
 )
theorem slices_IndexFunc_sl_impl_Key_impl_Key_eq (C : Comb) (x0 : Sl) (x1 : Value) : fT C Tryz.prog ⟨[(2, [(8, (.int .i64))])], [], [], []⟩ n_slices_IndexFunc_sl_impl_Key_impl_Key [(.slice x0.a x0.n x0.c), x1] = slices_IndexFunc_sl_impl_Key_impl_Key C x0 x1 := by kernel_rfl
theorem slices_IndexFunc_sl_impl_Key_impl_Key_calls {R : Value → World → Prop} {w : World} (x0 : Sl) (x1 : Value) (h : (slices_IndexFunc_sl_impl_Key_impl_Key (real Tryz.prog R) x0 x1 : World → Prop) w) :
    Calls Tryz.prog n_slices_IndexFunc_sl_impl_Key_impl_Key [(.slice x0.a x0.n x0.c), x1].toArray w fun e w' => ∃ v, e = .returned v ∧ R v w' := fT_sound mixed ⟨[(2, [(8, (.int .i64))])], [], [], []⟩ (by rw [slices_IndexFunc_sl_impl_Key_impl_Key_eq]; exact h)

def slices_Index_sl_impl_Key_impl_Key (C : Comb) (x0 : Sl) (x1 : Array Value) : C.St :=
 C.new ty_impl_Key (.agg x1) fun b3 =>
 C.loop (TL [(.int .i64)]) (embL [(.int .i64)]) [(.int .i64 0)] fun s2 ct2 => C.any fun _ =>
 cond (decide (s2 < (x0.n : Int))) (
 C.draw <|
 C.ld .agg 32 (Addr.mk b3 0 none) fun v11 =>
 C.ix x0.a x0.n 32 s2 fun p14 =>
 C.ld .agg 32 p14 fun v15 =>
 C.pur (eqB .eql ty_impl_Key (.tmp 11) (.tmp 15) (.agg v11) (.agg v15)) .bool fun y16 =>
 cond y16 (
 C.ret (.int .i64 s2)
 ) (
 ct2 [(.int .i64 (IntKind.wrap .i64 (s2 + 1)))]
 )
 ) (
 C.ret (.int .i64 (-1))
 )
theorem slices_Index_sl_impl_Key_impl_Key_eq (C : Comb) (x0 : Sl) (x1 : Array Value) : fT C Tryz.prog ⟨[(2, [(8, (.int .i64))])], [], [], []⟩ n_slices_Index_sl_impl_Key_impl_Key [(.slice x0.a x0.n x0.c), (.agg x1)] = slices_Index_sl_impl_Key_impl_Key C x0 x1 := by kernel_rfl
theorem slices_Index_sl_impl_Key_impl_Key_calls {R : Value → World → Prop} {w : World} (x0 : Sl) (x1 : Array Value) (h : (slices_Index_sl_impl_Key_impl_Key (real Tryz.prog R) x0 x1 : World → Prop) w) :
    Calls Tryz.prog n_slices_Index_sl_impl_Key_impl_Key [(.slice x0.a x0.n x0.c), (.agg x1)].toArray w fun e w' => ∃ v, e = .returned v ∧ R v w' := fT_sound mixed ⟨[(2, [(8, (.int .i64))])], [], [], []⟩ (by rw [slices_Index_sl_impl_Key_impl_Key_eq]; exact h)

def spec_l00In (C : Comb) (x0 : Int) (x1 : Int) (x2 : Int) : C.St :=
 cond (decide (x0 ≥ x1)) (
 C.ret (.bool (decide (x0 ≤ x2)))
 ) (
 C.ret (.bool false)
 )
theorem spec_l00In_eq (C : Comb) (x0 : Int) (x1 : Int) (x2 : Int) : fT C Tryz.prog ⟨[], [], [], []⟩ n_spec_l00In [(.int .i64 x0), (.int .i64 x1), (.int .i64 x2)] = spec_l00In C x0 x1 x2 := by kernel_rfl
theorem spec_l00In_calls {R : Value → World → Prop} {w : World} (x0 : Int) (x1 : Int) (x2 : Int) (h : (spec_l00In (real Tryz.prog R) x0 x1 x2 : World → Prop) w) :
    Calls Tryz.prog n_spec_l00In [(.int .i64 x0), (.int .i64 x1), (.int .i64 x2)].toArray w fun e w' => ∃ v, e = .returned v ∧ R v w' := fT_sound mixed ⟨[], [], [], []⟩ (by rw [spec_l00In_eq]; exact h)

def slices_Compare_sl_byte_byte (C : Comb) (x0 : Sl) (x1 : Sl) : C.St :=
 C.loop (TL [(.int .i64)]) (embL [(.int .i64)]) [(.int .i64 0)] fun s1 ct1 => C.any fun _ =>
 cond (decide (s1 < (x0.n : Int))) (
 C.ix x0.a x0.n 1 s1 fun p14 =>
 C.ld (.int .u8) 1 p14 fun v15 =>
 cond (decide (s1 ≥ (x1.n : Int))) (
 C.ret (.int .i64 1)
 ) (
 C.ix x1.a x1.n 1 s1 fun p22 =>
 C.ld (.int .u8) 1 p22 fun v23 =>
 C.call n_cmp_Compare_byte [(.int .u8 v15), (.int .u8 v23)] [(.int .i64)] fun r26 =>
 cond (r26 != 0) (
 C.ret (.int .i64 r26)
 ) (
 ct1 [(.int .i64 (IntKind.wrap .i64 (s1 + 1)))]
 )
 )
 ) (
 cond (decide ((x0.n : Int) < (x1.n : Int))) (
 C.ret (.int .i64 (-1))
 ) (
 C.ret (.int .i64 0)
 )
 )
theorem slices_Compare_sl_byte_byte_eq (C : Comb) (x0 : Sl) (x1 : Sl) : fT C Tryz.prog ⟨[(2, [(11, (.int .i64))])], [], [], []⟩ n_slices_Compare_sl_byte_byte [(.slice x0.a x0.n x0.c), (.slice x1.a x1.n x1.c)] = slices_Compare_sl_byte_byte C x0 x1 := by kernel_rfl
theorem slices_Compare_sl_byte_byte_calls {R : Value → World → Prop} {w : World} (x0 : Sl) (x1 : Sl) (h : (slices_Compare_sl_byte_byte (real Tryz.prog R) x0 x1 : World → Prop) w) :
    Calls Tryz.prog n_slices_Compare_sl_byte_byte [(.slice x0.a x0.n x0.c), (.slice x1.a x1.n x1.c)].toArray w fun e w' => ∃ v, e = .returned v ∧ R v w' := fT_sound mixed ⟨[(2, [(11, (.int .i64))])], [], [], []⟩ (by rw [slices_Compare_sl_byte_byte_eq]; exact h)

def ptr_impl_shop_reach (C : Comb) (x0 : Addr) (x1 : Sl) : C.St :=
 C.sem (Instr.buildSlice ty_sl_impl_Key 0 #[]) .slice fun y15 =>
 C.sem (Instr.makeMap ty_map_impl_Key_bool none) .val fun y16 =>
 C.new ty_sl_impl_Key (.slice none 0 0) fun b5 =>
 C.new ty_map_impl_Key_bool (.map none) fun b6 =>
 C.st 1 (Addr.mk b5 0 none) (.slice y15.a y15.n y15.c) <|
 C.st 1 (Addr.mk b6 0 none) y16 <|
 C.loop (TL [(.int .i64)]) (embL [(.int .i64)]) [(.int .i64 0)] fun s5 ct5 => C.any fun _ =>
 cond (decide (s5 < (x1.n : Int))) (
 C.ix x1.a x1.n 32 s5 fun p22 =>
 C.ld .agg 32 p22 fun v23 =>
 C.new ty_impl_Key (.agg (Array.replicate 32 (.int .u8 0))) fun b9 =>
 C.st 32 (Addr.mk b9 0 none) (.agg v23) <|
 C.ld .agg 32 (Addr.mk b9 0 none) fun v25 =>
 C.callV (.func (.func n_ptr_impl_shop_reach_1) #[] #[(.pointer (some (Addr.mk b6 0 none))), (.pointer (some (Addr.mk b5 0 none)))]) [(.agg v25)] [] fun r26 =>
 ct5 [(.int .i64 (IntKind.wrap .i64 (s5 + 1)))]
 ) (
 C.loop (TL [(.int .i64)]) (embL [(.int .i64)]) [(.int .i64 0)] fun s11 ct11 => C.any fun _ =>
 C.ld .slice 1 (Addr.mk b5 0 none) fun v29 =>
 cond (decide (s11 < (v29.n : Int))) (
 C.ld .slice 1 (Addr.mk b5 0 none) fun v36 =>
 C.ix v36.a v36.n 32 s11 fun p38 =>
 C.ld .agg 32 p38 fun v39 =>
 C.call n_ptr_impl_shop_get [(.pointer (some x0)), (.agg v39)] [.agg, .bool] fun r40 =>
 C.new ty_impl_Blob (.agg (#[(.int .u8 0), (.slice none 0 0)])) fun b11 =>
 C.st 2 (Addr.mk b11 0 none) (.agg r40.1) <|
 cond r40.2 (
 C.ld .agg 2 (Addr.mk b11 0 none) fun v44 =>
 C.call n_impl_Blob_links [(.agg v44)] [.slice] fun r45 =>
 C.loop (TL [(.int .i64)]) (embL [(.int .i64)]) [(.int .i64 0)] fun s20 ct20 => C.any fun _ =>
 cond (decide (s20 < (r45.n : Int))) (
 C.ix r45.a r45.n 32 s20 fun p49 =>
 C.ld .agg 32 p49 fun v50 =>
 C.new ty_impl_Key (.agg (Array.replicate 32 (.int .u8 0))) fun b14 =>
 C.st 32 (Addr.mk b14 0 none) (.agg v50) <|
 C.ld .agg 32 (Addr.mk b14 0 none) fun v52 =>
 C.callV (.func (.func n_ptr_impl_shop_reach_1) #[] #[(.pointer (some (Addr.mk b6 0 none))), (.pointer (some (Addr.mk b5 0 none)))]) [(.agg v52)] [] fun r53 =>
 ct20 [(.int .i64 (IntKind.wrap .i64 (s20 + 1)))]
 ) (
 ct11 [(.int .i64 (IntKind.wrap .i64 (s11 + 1)))]
 )
 ) (
 ct11 [(.int .i64 (IntKind.wrap .i64 (s11 + 1)))]
 )
 ) (
 C.ld .slice 1 (Addr.mk b5 0 none) fun v55 =>
 C.ret (.slice v55.a v55.n v55.c)
 )
 )
theorem ptr_impl_shop_reach_eq (C : Comb) (x0 : Addr) (x1 : Sl) : fT C Tryz.prog ⟨[(4, [(20, (.int .i64))]), (9, [(10, (.int .i64))]), (14, [(47, (.int .i64))])], [], [], []⟩ n_ptr_impl_shop_reach [(.pointer (some x0)), (.slice x1.a x1.n x1.c)] = ptr_impl_shop_reach C x0 x1 := by kernel_rfl
theorem ptr_impl_shop_reach_calls {R : Value → World → Prop} {w : World} (x0 : Addr) (x1 : Sl) (h : (ptr_impl_shop_reach (real Tryz.prog R) x0 x1 : World → Prop) w) :
    Calls Tryz.prog n_ptr_impl_shop_reach [(.pointer (some x0)), (.slice x1.a x1.n x1.c)].toArray w fun e w' => ∃ v, e = .returned v ∧ R v w' := fT_sound mixed ⟨[(4, [(20, (.int .i64))]), (9, [(10, (.int .i64))]), (14, [(47, (.int .i64))])], [], [], []⟩ (by rw [ptr_impl_shop_reach_eq]; exact h)

def ptr_impl_shop_store (C : Comb) (x0 : Addr) : C.St :=
 C.new ty_impl_Store (.agg (#[(.slice none 0 0)])) fun b2 =>
 C.pur (Instr.build ty_impl_Store #[]) .agg fun y6 =>
 C.new ty_impl_Store (.agg (#[(.slice none 0 0)])) fun b3 =>
 C.st 1 (Addr.mk b3 0 none) (.agg y6) <|
 C.ld .slice 1 (x0.add 1) fun v10 =>
 C.loop (TL [(.int .i64)]) (embL [(.int .i64)]) [(.int .i64 0)] fun s5 ct5 => C.any fun _ =>
 cond (decide (s5 < (v10.n : Int))) (
 C.ix v10.a v10.n 2 s5 fun p14 =>
 C.ld .agg 2 p14 fun v15 =>
 C.new ty_impl_Blob (.agg (#[(.int .u8 0), (.slice none 0 0)])) fun b5 =>
 C.st 2 (Addr.mk b5 0 none) (.agg v15) <|
 C.draw <|
 C.ld .slice 1 ((Addr.mk b3 0 none).add 0) fun v17 =>
 C.ld .agg 2 (Addr.mk b5 0 none) fun v18 =>
 C.call n_impl_Blob_copied [(.agg v18)] [.agg] fun r19 =>
 C.chk [⟨1, 1, ((Addr.mk b3 0 none).add 0), .slice, v17⟩] <|
 C.sem (Instr.buildSlice ty_sl_impl_Blob 1 #[(0, (.agg r19))]) .slice fun y20 =>
 C.chk [⟨1, 1, ((Addr.mk b3 0 none).add 0), .slice, v17⟩] <|
 C.sem (Builtin.append_ #[ty_sl_impl_Blob, ty_sl_impl_Blob] ty_sl_impl_Blob #[(.slice v17.a v17.n v17.c), (.slice y20.a y20.n y20.c)]) .slice fun y21 =>
 C.st 1 ((Addr.mk b3 0 none).add 0) (.slice y21.a y21.n y21.c) <|
 ct5 [(.int .i64 (IntKind.wrap .i64 (s5 + 1)))]
 ) (
 C.ld .agg 1 (Addr.mk b3 0 none) fun v24 =>
 C.st 1 (Addr.mk b2 0 none) (.agg v24) <|
 C.ld .agg 1 (Addr.mk b2 0 none) fun z15 =>
 C.ret (.agg z15)
 )
theorem ptr_impl_shop_store_eq (C : Comb) (x0 : Addr) : fT C Tryz.prog ⟨[(3, [(12, (.int .i64))])], [], [5], []⟩ n_ptr_impl_shop_store [(.pointer (some x0))] = ptr_impl_shop_store C x0 := by kernel_rfl
theorem ptr_impl_shop_store_calls {R : Value → World → Prop} {w : World} (x0 : Addr) (h : (ptr_impl_shop_store (real Tryz.prog R) x0 : World → Prop) w) :
    Calls Tryz.prog n_ptr_impl_shop_store [(.pointer (some x0))].toArray w fun e w' => ∃ v, e = .returned v ∧ R v w' := fT_sound mixed ⟨[(3, [(12, (.int .i64))])], [], [5], []⟩ (by rw [ptr_impl_shop_store_eq]; exact h)

def slices_ContainsFunc_sl_sl_impl_Key_sl_impl_Key (C : Comb) (x0 : Sl) (x1 : Value) : C.St :=
 C.call n_slices_IndexFunc_sl_sl_impl_Key_sl_impl_Key [(.slice x0.a x0.n x0.c), x1] [(.int .i64)] fun r7 =>
 C.ret (.bool (decide (r7 ≥ 0)))
theorem slices_ContainsFunc_sl_sl_impl_Key_sl_impl_Key_eq (C : Comb) (x0 : Sl) (x1 : Value) : fT C Tryz.prog ⟨[], [], [], []⟩ n_slices_ContainsFunc_sl_sl_impl_Key_sl_impl_Key [(.slice x0.a x0.n x0.c), x1] = slices_ContainsFunc_sl_sl_impl_Key_sl_impl_Key C x0 x1 := by kernel_rfl
theorem slices_ContainsFunc_sl_sl_impl_Key_sl_impl_Key_calls {R : Value → World → Prop} {w : World} (x0 : Sl) (x1 : Value) (h : (slices_ContainsFunc_sl_sl_impl_Key_sl_impl_Key (real Tryz.prog R) x0 x1 : World → Prop) w) :
    Calls Tryz.prog n_slices_ContainsFunc_sl_sl_impl_Key_sl_impl_Key [(.slice x0.a x0.n x0.c), x1].toArray w fun e w' => ∃ v, e = .returned v ∧ R v w' := fT_sound mixed ⟨[], [], [], []⟩ (by rw [slices_ContainsFunc_sl_sl_impl_Key_sl_impl_Key_eq]; exact h)

def impl_reachCode_1 (C : Comb) (x0 : Sl) : C.St :=
 C.ret (.bool (decide ((x0.n : Int) > 256)))
theorem impl_reachCode_1_eq (C : Comb) (x0 : Sl) : fT C Tryz.prog ⟨[], [], [], []⟩ n_impl_reachCode_1 [(.slice x0.a x0.n x0.c)] = impl_reachCode_1 C x0 := by kernel_rfl
theorem impl_reachCode_1_calls {R : Value → World → Prop} {w : World} (x0 : Sl) (h : (impl_reachCode_1 (real Tryz.prog R) x0 : World → Prop) w) :
    Calls Tryz.prog n_impl_reachCode_1 [(.slice x0.a x0.n x0.c)].toArray w fun e w' => ∃ v, e = .returned v ∧ R v w' := fT_sound mixed ⟨[], [], [], []⟩ (by rw [impl_reachCode_1_eq]; exact h)

def ptr_impl_shop_reached_1 (C : Comb) (x0 : Array Value) (x1 : Addr) (x2 : Addr) : C.St :=
 C.new ty_impl_Key (.agg x0) fun b3 =>
 C.draw <|
 C.ld .ptr 1 x1 fun v5 =>
 C.ld .agg 32 (Addr.mk b3 0 none) fun v6 =>
 C.ld .bool 1 x2 fun v8 =>
 C.call n_ptr_impl_shop_has [(.pointer (some v5)), (.agg v6)] [.bool] fun r7 =>
 C.chk [⟨3, 1, x2, .bool, v8⟩] <|
 C.pur (eqB .neq ty_bool (.tmp 7) (.tmp 8) (.bool r7) (.bool v8)) .bool fun y9 =>
 C.ret (.bool y9)
theorem ptr_impl_shop_reached_1_eq (C : Comb) (x0 : Array Value) (x1 : Addr) (x2 : Addr) : fT C Tryz.prog ⟨[], [], [1], []⟩ n_ptr_impl_shop_reached_1 [(.agg x0), (.pointer (some x1)), (.pointer (some x2))] = ptr_impl_shop_reached_1 C x0 x1 x2 := by kernel_rfl
theorem ptr_impl_shop_reached_1_calls {R : Value → World → Prop} {w : World} (x0 : Array Value) (x1 : Addr) (x2 : Addr) (h : (ptr_impl_shop_reached_1 (real Tryz.prog R) x0 x1 x2 : World → Prop) w) :
    Calls Tryz.prog n_ptr_impl_shop_reached_1 [(.agg x0), (.pointer (some x1)), (.pointer (some x2))].toArray w fun e w' => ∃ v, e = .returned v ∧ R v w' := fT_sound mixed ⟨[], [], [1], []⟩ (by rw [ptr_impl_shop_reached_1_eq]; exact h)

def impl_ValidStore (C : Comb) (x0 : Array Value) : C.St :=
 C.new ty_impl_Store (.agg x0) fun b1 =>
 C.join (TL []) (embL []) (fun s5 => C.any fun _ =>
 C.ld .agg 1 (Addr.mk b1 0 none) fun v13 =>
 C.call n_impl_Store_keys [(.agg v13)] [.slice] fun r14 =>
 C.call n_impl_sorted [(.slice r14.a r14.n r14.c)] [.slice] fun r16 =>
 cond ((r16.n : Int) == (r14.n : Int)) (
 C.call n_slices_IsSortedFunc_sl_impl_Key_impl_Key [(.slice r14.a r14.n r14.c), (.func (.func n_impl_compareKeys) #[] #[])] [.bool] fun r23 =>
 C.ret (.bool r23)
 ) (
 C.ret (.bool false)
 )
 ) fun jt =>
 C.ld .slice 1 ((Addr.mk b1 0 none).add 0) fun v5 =>
 cond (decide ((v5.n : Int) > 128)) (
 C.ret (.bool false)
 ) (
 C.ld .slice 1 ((Addr.mk b1 0 none).add 0) fun v10 =>
 C.call n_slices_ContainsFunc_sl_impl_Blob_impl_Blob [(.slice v10.a v10.n v10.c), (.func (.func n_impl_ValidStore_1) #[] #[])] [.bool] fun r11 =>
 cond r11 (
 C.ret (.bool false)
 ) (
 jt []
 )
 )
theorem impl_ValidStore_eq (C : Comb) (x0 : Array Value) : fT C Tryz.prog ⟨[], [(36, [])], [], []⟩ n_impl_ValidStore [(.agg x0)] = impl_ValidStore C x0 := by kernel_rfl
theorem impl_ValidStore_calls {R : Value → World → Prop} {w : World} (x0 : Array Value) (h : (impl_ValidStore (real Tryz.prog R) x0 : World → Prop) w) :
    Calls Tryz.prog n_impl_ValidStore [(.agg x0)].toArray w fun e w' => ∃ v, e = .returned v ∧ R v w' := fT_sound mixed ⟨[], [(36, [])], [], []⟩ (by rw [impl_ValidStore_eq]; exact h)

def impl_Store_keys (C : Comb) (x0 : Array Value) : C.St :=
 C.new ty_impl_Store (.agg x0) fun b1 =>
 C.sem (Instr.buildSlice ty_sl_impl_Key 0 #[]) .slice fun y6 =>
 C.ld .slice 1 ((Addr.mk b1 0 none).add 0) fun v8 =>
 C.loop (TL [.slice, (.int .i64)]) (embL [.slice, (.int .i64)]) [(.slice y6.a y6.n y6.c), (.int .i64 0)] fun s4 ct4 => C.any fun _ =>
 cond (decide (s4.2 < (v8.n : Int))) (
 C.ix v8.a v8.n 2 s4.2 fun p12 =>
 C.ld .agg 2 p12 fun v13 =>
 C.new ty_impl_Blob (.agg (#[(.int .u8 0), (.slice none 0 0)])) fun b5 =>
 C.st 2 (Addr.mk b5 0 none) (.agg v13) <|
 C.ld .agg 2 (Addr.mk b5 0 none) fun v15 =>
 C.call n_impl_Blob_key [(.agg v15)] [.agg] fun r16 =>
 C.sem (Instr.buildSlice ty_sl_impl_Key 1 #[(0, (.agg r16))]) .slice fun y17 =>
 C.sem (Builtin.append_ #[ty_sl_impl_Key, ty_sl_impl_Key] ty_sl_impl_Key #[(.slice s4.1.a s4.1.n s4.1.c), (.slice y17.a y17.n y17.c)]) .slice fun y18 =>
 ct4 [(.slice y18.a y18.n y18.c), (.int .i64 (IntKind.wrap .i64 (s4.2 + 1)))]
 ) (
 C.ret (.slice s4.1.a s4.1.n s4.1.c)
 )
theorem impl_Store_keys_eq (C : Comb) (x0 : Array Value) : fT C Tryz.prog ⟨[(3, [(3, .slice), (10, (.int .i64))])], [], [], []⟩ n_impl_Store_keys [(.agg x0)] = impl_Store_keys C x0 := by kernel_rfl
theorem impl_Store_keys_calls {R : Value → World → Prop} {w : World} (x0 : Array Value) (h : (impl_Store_keys (real Tryz.prog R) x0 : World → Prop) w) :
    Calls Tryz.prog n_impl_Store_keys [(.agg x0)].toArray w fun e w' => ∃ v, e = .returned v ∧ R v w' := fT_sound mixed ⟨[(3, [(3, .slice), (10, (.int .i64))])], [], [], []⟩ (by rw [impl_Store_keys_eq]; exact h)

def slices_Clone_sl_impl_Blob_impl_Blob (C : Comb) (x0 : Sl) : C.St :=
 C.pur (eqB .eql ty_sl_impl_Blob (.tmp 3) (.const (.slice none 0 0)) (.slice x0.a x0.n x0.c) (.slice none 0 0)) .bool fun y4 =>
 cond y4 (
 C.ret (.slice none 0 0)
 ) (
 C.sem (Instr.buildSlice ty_sl_impl_Blob 0 #[]) .slice fun y5 =>
 C.sem (Builtin.append_ #[ty_sl_impl_Blob, ty_sl_impl_Blob] ty_sl_impl_Blob #[(.slice y5.a y5.n y5.c), (.slice x0.a x0.n x0.c)]) .slice fun y7 =>
 C.ret (.slice y7.a y7.n y7.c)
 )
theorem slices_Clone_sl_impl_Blob_impl_Blob_eq (C : Comb) (x0 : Sl) : fT C Tryz.prog ⟨[], [], [], []⟩ n_slices_Clone_sl_impl_Blob_impl_Blob [(.slice x0.a x0.n x0.c)] = slices_Clone_sl_impl_Blob_impl_Blob C x0 := by kernel_rfl
theorem slices_Clone_sl_impl_Blob_impl_Blob_calls {R : Value → World → Prop} {w : World} (x0 : Sl) (h : (slices_Clone_sl_impl_Blob_impl_Blob (real Tryz.prog R) x0 : World → Prop) w) :
    Calls Tryz.prog n_slices_Clone_sl_impl_Blob_impl_Blob [(.slice x0.a x0.n x0.c)].toArray w fun e w' => ∃ v, e = .returned v ∧ R v w' := fT_sound mixed ⟨[], [], [], []⟩ (by rw [slices_Clone_sl_impl_Blob_impl_Blob_eq]; exact h)

def spec_l01End (C : Comb) (x0 : Array Value) (x1 : Sl) (x2 : Int) : C.St :=
 C.new ty_arr8_uint32 (.agg x0) fun b3 =>
 C.new ty_impl_Key (.agg (Array.replicate 32 (.int .u8 0))) fun b6 =>
 C.call n_spec_l01Padded [(.slice x1.a x1.n x1.c), (.int .i64 x2)] [.slice] fun r13 =>
 C.loop (TL [(.int .i64)]) (embL [(.int .i64)]) [(.int .i64 0)] fun s4 ct4 => C.any fun _ =>
 cond (decide (s4 < (r13.n : Int))) (
 C.draw <|
 C.ld .agg 8 (Addr.mk b3 0 none) fun v20 =>
 C.call n_spec_l01Block [(.slice r13.a r13.n r13.c), (.int .i64 s4)] [.agg] fun r23 =>
 C.chk [⟨0, 8, (Addr.mk b3 0 none), .agg, v20⟩] <|
 C.call n_spec_l01Mix [(.agg v20), (.agg r23)] [.agg] fun r24 =>
 C.st 8 (Addr.mk b3 0 none) (.agg r24) <|
 ct4 [(.int .i64 (IntKind.wrap .i64 (s4 + 32)))]
 ) (
 C.new ty_impl_Key (.agg (Array.replicate 32 (.int .u8 0))) fun b9 =>
 C.st 32 (Addr.mk b9 0 none) (.agg (Array.replicate 32 (.int .u8 0))) <|
 C.loop (TL [(.int .i64)]) (embL [(.int .i64)]) [(.int .i64 0)] fun s9 ct9 => C.any fun _ =>
 cond (decide (s9 < 32)) (
 C.ix (some (Addr.mk b3 0 none)) 8 1 (IntKind.wrap .i64 (Int.tdiv s9 4)) fun p33 =>
 C.ld (.int .u32) 1 p33 fun v34 =>
 C.pur (eqB .shr ty_uint32 (.tmp 34) (.tmp 38) (.int .u32 v34) (.int .u64 (IntKind.wrap .u64 ((IntKind.wrap .i64 (8 * (Int.tmod s9 4))))))) (.int .u32) fun y39 =>
 C.ix (some (Addr.mk b9 0 none)) 32 1 s9 fun p41 =>
 C.st 1 p41 (.int .u8 (IntKind.wrap .u8 (y39))) <|
 ct9 [(.int .i64 (IntKind.wrap .i64 (s9 + 1)))]
 ) (
 C.ld .agg 32 (Addr.mk b9 0 none) fun v42 =>
 C.st 32 (Addr.mk b6 0 none) (.agg v42) <|
 C.ld .agg 32 (Addr.mk b6 0 none) fun z15 =>
 C.ret (.agg z15)
 )
 )
theorem spec_l01End_eq (C : Comb) (x0 : Array Value) (x1 : Sl) (x2 : Int) : fT C Tryz.prog ⟨[(3, [(8, (.int .i64))]), (8, [(10, (.int .i64))])], [], [5], []⟩ n_spec_l01End [(.agg x0), (.slice x1.a x1.n x1.c), (.int .i64 x2)] = spec_l01End C x0 x1 x2 := by kernel_rfl
theorem spec_l01End_calls {R : Value → World → Prop} {w : World} (x0 : Array Value) (x1 : Sl) (x2 : Int) (h : (spec_l01End (real Tryz.prog R) x0 x1 x2 : World → Prop) w) :
    Calls Tryz.prog n_spec_l01End [(.agg x0), (.slice x1.a x1.n x1.c), (.int .i64 x2)].toArray w fun e w' => ∃ v, e = .returned v ∧ R v w' := fT_sound mixed ⟨[(3, [(8, (.int .i64))]), (8, [(10, (.int .i64))])], [], [5], []⟩ (by rw [spec_l01End_eq]; exact h)

def spec_l01Start (C : Comb) (x0 : Int) : C.St :=
 C.new ty_arr8_uint32 (.agg (Array.replicate 8 (.int .u32 0))) fun b2 =>
 C.new ty_arr8_uint32 (.agg (Array.replicate 8 (.int .u32 0))) fun b3 =>
 C.st 8 (Addr.mk b3 0 none) (.agg (Array.replicate 8 (.int .u32 0))) <|
 C.loop (TL [(.int .i64)]) (embL [(.int .i64)]) [(.int .i64 0)] fun s3 ct3 => C.any fun _ =>
 cond (decide (s3 < 8)) (
 C.ix (some (Addr.mk b3 0 none)) 8 1 s3 fun p18 =>
 C.st 1 p18 (.int .u32 (IntKind.wrap .u32 ((IntKind.wrap .u32 (16777619 * (IntKind.wrap .u32 ((IntKind.wrap .i64 (s3 + 1)))))) + (IntKind.wrap .u32 (x0))))) <|
 ct3 [(.int .i64 (IntKind.wrap .i64 (s3 + 1)))]
 ) (
 C.ld .agg 8 (Addr.mk b3 0 none) fun v19 =>
 C.st 8 (Addr.mk b2 0 none) (.agg v19) <|
 C.ld .agg 8 (Addr.mk b2 0 none) fun z6 =>
 C.ret (.agg z6)
 )
theorem spec_l01Start_eq (C : Comb) (x0 : Int) : fT C Tryz.prog ⟨[(3, [(4, (.int .i64))])], [], [], []⟩ n_spec_l01Start [(.int .u8 x0)] = spec_l01Start C x0 := by kernel_rfl
theorem spec_l01Start_calls {R : Value → World → Prop} {w : World} (x0 : Int) (h : (spec_l01Start (real Tryz.prog R) x0 : World → Prop) w) :
    Calls Tryz.prog n_spec_l01Start [(.int .u8 x0)].toArray w fun e w' => ∃ v, e = .returned v ∧ R v w' := fT_sound mixed ⟨[(3, [(4, (.int .i64))])], [], [], []⟩ (by rw [spec_l01Start_eq]; exact h)

def impl_ValidEntry (C : Comb) (x0 : Array Value) : C.St :=
 C.new ty_impl_Entry (.agg x0) fun b1 =>
 C.ld .str 1 ((Addr.mk b1 0 none).add 0) fun v4 =>
 C.call n_impl_isName [(.string v4)] [.bool] fun r5 =>
 cond r5 (
 C.ld .str 1 ((Addr.mk b1 0 none).add 1) fun v8 =>
 C.ret (.bool (decide ((v8.size : Int) ≤ 64)))
 ) (
 C.ret (.bool false)
 )
theorem impl_ValidEntry_eq (C : Comb) (x0 : Array Value) : fT C Tryz.prog ⟨[], [], [], []⟩ n_impl_ValidEntry [(.agg x0)] = impl_ValidEntry C x0 := by kernel_rfl
theorem impl_ValidEntry_calls {R : Value → World → Prop} {w : World} (x0 : Array Value) (h : (impl_ValidEntry (real Tryz.prog R) x0 : World → Prop) w) :
    Calls Tryz.prog n_impl_ValidEntry [(.agg x0)].toArray w fun e w' => ∃ v, e = .returned v ∧ R v w' := fT_sound mixed ⟨[], [], [], []⟩ (by rw [impl_ValidEntry_eq]; exact h)

def laws_szBlob (C : Comb) (x0 : Array Value) (x1 : Int) : C.St :=
 C.new ty_laws_Blob (.agg x0) fun b2 =>
 C.ld .slice 1 ((Addr.mk b2 0 none).add 1) fun v6 =>
 C.call n_laws_szByteS [(.slice v6.a v6.n v6.c), (.int .i64 x1)] [(.int .i64)] fun r8 =>
 cond (decide (r8 < 0)) (
 C.ret (.int .i64 (-1))
 ) (
 C.ret (.int .i64 r8)
 )
theorem laws_szBlob_eq (C : Comb) (x0 : Array Value) (x1 : Int) : fT C Tryz.prog ⟨[], [], [], []⟩ n_laws_szBlob [(.agg x0), (.int .i64 x1)] = laws_szBlob C x0 x1 := by kernel_rfl
theorem laws_szBlob_calls {R : Value → World → Prop} {w : World} (x0 : Array Value) (x1 : Int) (h : (laws_szBlob (real Tryz.prog R) x0 x1 : World → Prop) w) :
    Calls Tryz.prog n_laws_szBlob [(.agg x0), (.int .i64 x1)].toArray w fun e w' => ∃ v, e = .returned v ∧ R v w' := fT_sound mixed ⟨[], [], [], []⟩ (by rw [laws_szBlob_eq]; exact h)

def laws_toBlob (C : Comb) (x0 : Array Value) : C.St :=
 C.new ty_laws_Blob (.agg x0) fun b1 =>
 C.new ty_impl_Blob (.agg (#[(.int .u8 0), (.slice none 0 0)])) fun b2 =>
 C.new ty_impl_Blob (.agg (#[(.int .u8 0), (.slice none 0 0)])) fun b3 =>
 C.ld (.int .u8) 1 ((Addr.mk b1 0 none).add 0) fun v5 =>
 C.st 1 ((Addr.mk b3 0 none).add 0) (.int .u8 v5) <|
 C.ld .slice 1 ((Addr.mk b1 0 none).add 1) fun v8 =>
 C.call n_laws_toByteS [(.slice v8.a v8.n v8.c)] [.slice] fun r9 =>
 C.st 1 ((Addr.mk b3 0 none).add 1) (.slice r9.a r9.n r9.c) <|
 C.ld .agg 2 (Addr.mk b3 0 none) fun v11 =>
 C.st 2 (Addr.mk b2 0 none) (.agg v11) <|
 C.ld .agg 2 (Addr.mk b2 0 none) fun z8 =>
 C.ret (.agg z8)
theorem laws_toBlob_eq (C : Comb) (x0 : Array Value) : fT C Tryz.prog ⟨[], [], [], []⟩ n_laws_toBlob [(.agg x0)] = laws_toBlob C x0 := by kernel_rfl
theorem laws_toBlob_calls {R : Value → World → Prop} {w : World} (x0 : Array Value) (h : (laws_toBlob (real Tryz.prog R) x0 : World → Prop) w) :
    Calls Tryz.prog n_laws_toBlob [(.agg x0)].toArray w fun e w' => ∃ v, e = .returned v ∧ R v w' := fT_sound mixed ⟨[], [], [], []⟩ (by rw [laws_toBlob_eq]; exact h)

def laws_eqBlob (C : Comb) (x0 : Array Value) (x1 : Array Value) : C.St :=
 C.new ty_impl_Blob (.agg x0) fun b2 =>
 C.new ty_impl_Blob (.agg x1) fun b3 =>
 C.ld (.int .u8) 1 ((Addr.mk b2 0 none).add 0) fun v6 =>
 C.ld (.int .u8) 1 ((Addr.mk b3 0 none).add 0) fun v8 =>
 cond (v6 != v8) (
 C.ret (.bool false)
 ) (
 C.ld .slice 1 ((Addr.mk b2 0 none).add 1) fun v11 =>
 C.ld .slice 1 ((Addr.mk b3 0 none).add 1) fun v13 =>
 C.call n_laws_eqByteS [(.slice v11.a v11.n v11.c), (.slice v13.a v13.n v13.c)] [.bool] fun r14 =>
 cond (!r14) (
 C.ret (.bool false)
 ) (
 C.ret (.bool true)
 )
 )
theorem laws_eqBlob_eq (C : Comb) (x0 : Array Value) (x1 : Array Value) : fT C Tryz.prog ⟨[], [], [], []⟩ n_laws_eqBlob [(.agg x0), (.agg x1)] = laws_eqBlob C x0 x1 := by kernel_rfl
theorem laws_eqBlob_calls {R : Value → World → Prop} {w : World} (x0 : Array Value) (x1 : Array Value) (h : (laws_eqBlob (real Tryz.prog R) x0 x1 : World → Prop) w) :
    Calls Tryz.prog n_laws_eqBlob [(.agg x0), (.agg x1)].toArray w fun e w' => ∃ v, e = .returned v ∧ R v w' := fT_sound mixed ⟨[], [], [], []⟩ (by rw [laws_eqBlob_eq]; exact h)

def ptr_impl_shop_find (C : Comb) (x0 : Addr) (x1 : Array Value) : C.St :=
 C.new ty_impl_Key (.agg x1) fun b3 =>
 C.draw <|
 C.ld .slice 1 (x0.add 0) fun v9 =>
 C.ld .agg 32 (Addr.mk b3 0 none) fun v10 =>
 C.call n_slices_BinarySearchFunc_sl_impl_Key_impl_Key_impl_Key [(.slice v9.a v9.n v9.c), (.agg v10), (.func (.func n_impl_compareKeys) #[] #[])] [(.int .i64), .bool] fun r11 =>
 C.ret (.tuple #[(.int .i64 r11.1), (.bool r11.2)])
theorem ptr_impl_shop_find_eq (C : Comb) (x0 : Addr) (x1 : Array Value) : fT C Tryz.prog ⟨[], [], [1], []⟩ n_ptr_impl_shop_find [(.pointer (some x0)), (.agg x1)] = ptr_impl_shop_find C x0 x1 := by kernel_rfl
theorem ptr_impl_shop_find_calls {R : Value → World → Prop} {w : World} (x0 : Addr) (x1 : Array Value) (h : (ptr_impl_shop_find (real Tryz.prog R) x0 x1 : World → Prop) w) :
    Calls Tryz.prog n_ptr_impl_shop_find [(.pointer (some x0)), (.agg x1)].toArray w fun e w' => ∃ v, e = .returned v ∧ R v w' := fT_sound mixed ⟨[], [], [1], []⟩ (by rw [ptr_impl_shop_find_eq]; exact h)

def impl_ReadMapNode (C : Comb) (x0 : Sl) : C.St :=
 C.new ty_impl_MapNode (.agg (#[(.int .u8 0), (.int .u8 0), (.int .u8 0), (.int .u8 0), (.int .u8 0), (.int .u8 0), (.int .u8 0), (.int .u8 0), (.int .u8 0), (.int .u8 0), (.int .u8 0), (.int .u8 0), (.int .u8 0), (.int .u8 0), (.int .u8 0), (.int .u8 0), (.int .u8 0), (.int .u8 0), (.int .u8 0), (.int .u8 0), (.int .u8 0), (.int .u8 0), (.int .u8 0), (.int .u8 0), (.int .u8 0), (.int .u8 0), (.int .u8 0), (.int .u8 0), (.int .u8 0), (.int .u8 0), (.int .u8 0), (.int .u8 0), (.int .u8 0), (.int .u8 0), (.int .u8 0), (.int .u8 0), (.int .u8 0), (.int .u8 0), (.int .u8 0), (.int .u8 0), (.int .u8 0), (.int .u8 0), (.int .u8 0), (.int .u8 0), (.int .u8 0), (.int .u8 0), (.int .u8 0), (.int .u8 0), (.int .u8 0), (.int .u8 0), (.int .u8 0), (.int .u8 0), (.int .u8 0), (.int .u8 0), (.int .u8 0), (.int .u8 0), (.int .u8 0), (.int .u8 0), (.int .u8 0), (.int .u8 0), (.int .u8 0), (.int .u8 0), (.int .u8 0), (.int .u8 0), (.string (⟨#[]⟩ : ByteArray)), (.string (⟨#[]⟩ : ByteArray))])) fun b2 =>
 C.join (TL []) (embL []) (fun s8 => C.any fun _ =>
 C.ix x0.a x0.n 1 64 fun p21 =>
 C.ld (.int .u8) 1 p21 fun v22 =>
 C.join (TL [.ptr]) (embL [.ptr]) (fun s45 => C.any fun _ =>
 C.ld .agg 2 (s45.add 64) fun v43 =>
 C.call n_impl_ValidEntry [(.agg v43)] [.bool] fun r44 =>
 cond (!r44) (
 C.pur (Instr.build ty_impl_MapNode #[]) .agg fun y46 =>
 C.st 66 (Addr.mk b2 0 none) (.agg y46) <|
 C.ld .agg 66 (Addr.mk b2 0 none) fun z49 =>
 C.ret (.tuple #[(.agg z49), (.int .i64 5)])
 ) (
 C.ld .agg 66 s45 fun v47 =>
 C.st 66 (Addr.mk b2 0 none) (.agg v47) <|
 C.ld .agg 66 (Addr.mk b2 0 none) fun z51 =>
 C.ret (.tuple #[(.agg z51), (.int .i64 0)])
 )
 ) fun jt =>
 C.draw <|
 C.pur (Instr.arrayAt ty_impl_Key (.slice x0.a x0.n x0.c)) .ptr fun y26 =>
 C.ld .agg 32 y26 fun v27 =>
 C.sl x0.a x0.n x0.c 1 (some 32) none none fun y29 =>
 C.pur (Instr.arrayAt ty_impl_Key (.slice y29.a y29.n y29.c)) .ptr fun y30 =>
 C.ld .agg 32 y30 fun v31 =>
 C.sl x0.a x0.n x0.c 1 (some 65) (some (IntKind.wrap .i64 (65 + (IntKind.wrap .i64 (v22))))) none fun y34 =>
 C.sl x0.a x0.n x0.c 1 (some (IntKind.wrap .i64 (65 + (IntKind.wrap .i64 (v22))))) none none fun y38 =>
 C.all [
 (C.sem (convert ty_sl_uint8 ty_string (.slice y34.a y34.n y34.c)) .str fun y35 =>
 C.chk [⟨6, 32, y30, .agg, v31⟩, ⟨2, 32, y26, .agg, v27⟩] <|
 C.all [
 (C.sem (convert ty_sl_uint8 ty_string (.slice y38.a y38.n y38.c)) .str fun y39 =>
 C.chk [⟨6, 32, y30, .agg, v31⟩, ⟨2, 32, y26, .agg, v27⟩] <|
 C.pur (Instr.build ty_impl_Entry #[(0, (.string y35)), (1, (.string y39))]) .agg fun y40 =>
 C.pur (Instr.build ty_impl_MapNode #[(0, (.agg v27)), (1, (.agg v31)), (2, (.agg y40))]) .agg fun y41 =>
 C.new ty_impl_MapNode (.agg (#[(.int .u8 0), (.int .u8 0), (.int .u8 0), (.int .u8 0), (.int .u8 0), (.int .u8 0), (.int .u8 0), (.int .u8 0), (.int .u8 0), (.int .u8 0), (.int .u8 0), (.int .u8 0), (.int .u8 0), (.int .u8 0), (.int .u8 0), (.int .u8 0), (.int .u8 0), (.int .u8 0), (.int .u8 0), (.int .u8 0), (.int .u8 0), (.int .u8 0), (.int .u8 0), (.int .u8 0), (.int .u8 0), (.int .u8 0), (.int .u8 0), (.int .u8 0), (.int .u8 0), (.int .u8 0), (.int .u8 0), (.int .u8 0), (.int .u8 0), (.int .u8 0), (.int .u8 0), (.int .u8 0), (.int .u8 0), (.int .u8 0), (.int .u8 0), (.int .u8 0), (.int .u8 0), (.int .u8 0), (.int .u8 0), (.int .u8 0), (.int .u8 0), (.int .u8 0), (.int .u8 0), (.int .u8 0), (.int .u8 0), (.int .u8 0), (.int .u8 0), (.int .u8 0), (.int .u8 0), (.int .u8 0), (.int .u8 0), (.int .u8 0), (.int .u8 0), (.int .u8 0), (.int .u8 0), (.int .u8 0), (.int .u8 0), (.int .u8 0), (.int .u8 0), (.int .u8 0), (.string (⟨#[]⟩ : ByteArray)), (.string (⟨#[]⟩ : ByteArray))])) fun b5 =>
 C.chk [⟨6, 32, y30, .agg, v31⟩, ⟨2, 32, y26, .agg, v27⟩] <|
 C.st 66 (Addr.mk b5 0 none) (.agg y41) <|
 jt [(.pointer (some (Addr.mk b5 0 none)))]),
 (C.new ty_impl_MapNode (.agg (#[(.int .u8 0), (.int .u8 0), (.int .u8 0), (.int .u8 0), (.int .u8 0), (.int .u8 0), (.int .u8 0), (.int .u8 0), (.int .u8 0), (.int .u8 0), (.int .u8 0), (.int .u8 0), (.int .u8 0), (.int .u8 0), (.int .u8 0), (.int .u8 0), (.int .u8 0), (.int .u8 0), (.int .u8 0), (.int .u8 0), (.int .u8 0), (.int .u8 0), (.int .u8 0), (.int .u8 0), (.int .u8 0), (.int .u8 0), (.int .u8 0), (.int .u8 0), (.int .u8 0), (.int .u8 0), (.int .u8 0), (.int .u8 0), (.int .u8 0), (.int .u8 0), (.int .u8 0), (.int .u8 0), (.int .u8 0), (.int .u8 0), (.int .u8 0), (.int .u8 0), (.int .u8 0), (.int .u8 0), (.int .u8 0), (.int .u8 0), (.int .u8 0), (.int .u8 0), (.int .u8 0), (.int .u8 0), (.int .u8 0), (.int .u8 0), (.int .u8 0), (.int .u8 0), (.int .u8 0), (.int .u8 0), (.int .u8 0), (.int .u8 0), (.int .u8 0), (.int .u8 0), (.int .u8 0), (.int .u8 0), (.int .u8 0), (.int .u8 0), (.int .u8 0), (.int .u8 0), (.string (⟨#[]⟩ : ByteArray)), (.string (⟨#[]⟩ : ByteArray))])) fun b5 =>
 C.chk [⟨6, 32, y30, .agg, v31⟩, ⟨2, 32, y26, .agg, v27⟩] <|
 C.sem (convert ty_sl_uint8 ty_string (.slice y38.a y38.n y38.c)) .str fun y39 =>
 C.chk [⟨6, 32, y30, .agg, v31⟩, ⟨2, 32, y26, .agg, v27⟩] <|
 C.pur (Instr.build ty_impl_Entry #[(0, (.string y35)), (1, (.string y39))]) .agg fun y40 =>
 C.pur (Instr.build ty_impl_MapNode #[(0, (.agg v27)), (1, (.agg v31)), (2, (.agg y40))]) .agg fun y41 =>
 C.st 66 (Addr.mk b5 0 none) (.agg y41) <|
 jt [(.pointer (some (Addr.mk b5 0 none)))])]),
 (C.sem (convert ty_sl_uint8 ty_string (.slice y38.a y38.n y38.c)) .str fun y39 =>
 C.chk [⟨6, 32, y30, .agg, v31⟩, ⟨2, 32, y26, .agg, v27⟩] <|
 C.all [
 (C.sem (convert ty_sl_uint8 ty_string (.slice y34.a y34.n y34.c)) .str fun y35 =>
 C.chk [⟨6, 32, y30, .agg, v31⟩, ⟨2, 32, y26, .agg, v27⟩] <|
 C.pur (Instr.build ty_impl_Entry #[(0, (.string y35)), (1, (.string y39))]) .agg fun y40 =>
 C.pur (Instr.build ty_impl_MapNode #[(0, (.agg v27)), (1, (.agg v31)), (2, (.agg y40))]) .agg fun y41 =>
 C.new ty_impl_MapNode (.agg (#[(.int .u8 0), (.int .u8 0), (.int .u8 0), (.int .u8 0), (.int .u8 0), (.int .u8 0), (.int .u8 0), (.int .u8 0), (.int .u8 0), (.int .u8 0), (.int .u8 0), (.int .u8 0), (.int .u8 0), (.int .u8 0), (.int .u8 0), (.int .u8 0), (.int .u8 0), (.int .u8 0), (.int .u8 0), (.int .u8 0), (.int .u8 0), (.int .u8 0), (.int .u8 0), (.int .u8 0), (.int .u8 0), (.int .u8 0), (.int .u8 0), (.int .u8 0), (.int .u8 0), (.int .u8 0), (.int .u8 0), (.int .u8 0), (.int .u8 0), (.int .u8 0), (.int .u8 0), (.int .u8 0), (.int .u8 0), (.int .u8 0), (.int .u8 0), (.int .u8 0), (.int .u8 0), (.int .u8 0), (.int .u8 0), (.int .u8 0), (.int .u8 0), (.int .u8 0), (.int .u8 0), (.int .u8 0), (.int .u8 0), (.int .u8 0), (.int .u8 0), (.int .u8 0), (.int .u8 0), (.int .u8 0), (.int .u8 0), (.int .u8 0), (.int .u8 0), (.int .u8 0), (.int .u8 0), (.int .u8 0), (.int .u8 0), (.int .u8 0), (.int .u8 0), (.int .u8 0), (.string (⟨#[]⟩ : ByteArray)), (.string (⟨#[]⟩ : ByteArray))])) fun b5 =>
 C.chk [⟨6, 32, y30, .agg, v31⟩, ⟨2, 32, y26, .agg, v27⟩] <|
 C.st 66 (Addr.mk b5 0 none) (.agg y41) <|
 jt [(.pointer (some (Addr.mk b5 0 none)))]),
 (C.new ty_impl_MapNode (.agg (#[(.int .u8 0), (.int .u8 0), (.int .u8 0), (.int .u8 0), (.int .u8 0), (.int .u8 0), (.int .u8 0), (.int .u8 0), (.int .u8 0), (.int .u8 0), (.int .u8 0), (.int .u8 0), (.int .u8 0), (.int .u8 0), (.int .u8 0), (.int .u8 0), (.int .u8 0), (.int .u8 0), (.int .u8 0), (.int .u8 0), (.int .u8 0), (.int .u8 0), (.int .u8 0), (.int .u8 0), (.int .u8 0), (.int .u8 0), (.int .u8 0), (.int .u8 0), (.int .u8 0), (.int .u8 0), (.int .u8 0), (.int .u8 0), (.int .u8 0), (.int .u8 0), (.int .u8 0), (.int .u8 0), (.int .u8 0), (.int .u8 0), (.int .u8 0), (.int .u8 0), (.int .u8 0), (.int .u8 0), (.int .u8 0), (.int .u8 0), (.int .u8 0), (.int .u8 0), (.int .u8 0), (.int .u8 0), (.int .u8 0), (.int .u8 0), (.int .u8 0), (.int .u8 0), (.int .u8 0), (.int .u8 0), (.int .u8 0), (.int .u8 0), (.int .u8 0), (.int .u8 0), (.int .u8 0), (.int .u8 0), (.int .u8 0), (.int .u8 0), (.int .u8 0), (.int .u8 0), (.string (⟨#[]⟩ : ByteArray)), (.string (⟨#[]⟩ : ByteArray))])) fun b5 =>
 C.chk [⟨6, 32, y30, .agg, v31⟩, ⟨2, 32, y26, .agg, v27⟩] <|
 C.sem (convert ty_sl_uint8 ty_string (.slice y34.a y34.n y34.c)) .str fun y35 =>
 C.chk [⟨6, 32, y30, .agg, v31⟩, ⟨2, 32, y26, .agg, v27⟩] <|
 C.pur (Instr.build ty_impl_Entry #[(0, (.string y35)), (1, (.string y39))]) .agg fun y40 =>
 C.pur (Instr.build ty_impl_MapNode #[(0, (.agg v27)), (1, (.agg v31)), (2, (.agg y40))]) .agg fun y41 =>
 C.st 66 (Addr.mk b5 0 none) (.agg y41) <|
 jt [(.pointer (some (Addr.mk b5 0 none)))])]),
 (C.new ty_impl_MapNode (.agg (#[(.int .u8 0), (.int .u8 0), (.int .u8 0), (.int .u8 0), (.int .u8 0), (.int .u8 0), (.int .u8 0), (.int .u8 0), (.int .u8 0), (.int .u8 0), (.int .u8 0), (.int .u8 0), (.int .u8 0), (.int .u8 0), (.int .u8 0), (.int .u8 0), (.int .u8 0), (.int .u8 0), (.int .u8 0), (.int .u8 0), (.int .u8 0), (.int .u8 0), (.int .u8 0), (.int .u8 0), (.int .u8 0), (.int .u8 0), (.int .u8 0), (.int .u8 0), (.int .u8 0), (.int .u8 0), (.int .u8 0), (.int .u8 0), (.int .u8 0), (.int .u8 0), (.int .u8 0), (.int .u8 0), (.int .u8 0), (.int .u8 0), (.int .u8 0), (.int .u8 0), (.int .u8 0), (.int .u8 0), (.int .u8 0), (.int .u8 0), (.int .u8 0), (.int .u8 0), (.int .u8 0), (.int .u8 0), (.int .u8 0), (.int .u8 0), (.int .u8 0), (.int .u8 0), (.int .u8 0), (.int .u8 0), (.int .u8 0), (.int .u8 0), (.int .u8 0), (.int .u8 0), (.int .u8 0), (.int .u8 0), (.int .u8 0), (.int .u8 0), (.int .u8 0), (.int .u8 0), (.string (⟨#[]⟩ : ByteArray)), (.string (⟨#[]⟩ : ByteArray))])) fun b5 =>
 C.chk [⟨6, 32, y30, .agg, v31⟩, ⟨2, 32, y26, .agg, v27⟩] <|
 C.all [
 (C.sem (convert ty_sl_uint8 ty_string (.slice y34.a y34.n y34.c)) .str fun y35 =>
 C.chk [⟨6, 32, y30, .agg, v31⟩, ⟨2, 32, y26, .agg, v27⟩] <|
 C.sem (convert ty_sl_uint8 ty_string (.slice y38.a y38.n y38.c)) .str fun y39 =>
 C.chk [⟨6, 32, y30, .agg, v31⟩, ⟨2, 32, y26, .agg, v27⟩] <|
 C.pur (Instr.build ty_impl_Entry #[(0, (.string y35)), (1, (.string y39))]) .agg fun y40 =>
 C.pur (Instr.build ty_impl_MapNode #[(0, (.agg v27)), (1, (.agg v31)), (2, (.agg y40))]) .agg fun y41 =>
 C.st 66 (Addr.mk b5 0 none) (.agg y41) <|
 jt [(.pointer (some (Addr.mk b5 0 none)))]),
 (C.sem (convert ty_sl_uint8 ty_string (.slice y38.a y38.n y38.c)) .str fun y39 =>
 C.chk [⟨6, 32, y30, .agg, v31⟩, ⟨2, 32, y26, .agg, v27⟩] <|
 C.sem (convert ty_sl_uint8 ty_string (.slice y34.a y34.n y34.c)) .str fun y35 =>
 C.chk [⟨6, 32, y30, .agg, v31⟩, ⟨2, 32, y26, .agg, v27⟩] <|
 C.pur (Instr.build ty_impl_Entry #[(0, (.string y35)), (1, (.string y39))]) .agg fun y40 =>
 C.pur (Instr.build ty_impl_MapNode #[(0, (.agg v27)), (1, (.agg v31)), (2, (.agg y40))]) .agg fun y41 =>
 C.st 66 (Addr.mk b5 0 none) (.agg y41) <|
 jt [(.pointer (some (Addr.mk b5 0 none)))])])]
 ) fun jt =>
 cond (decide ((x0.n : Int) < 65)) (
 C.pur (Instr.build ty_impl_MapNode #[]) .agg fun y19 =>
 C.st 66 (Addr.mk b2 0 none) (.agg y19) <|
 C.ld .agg 66 (Addr.mk b2 0 none) fun z3 =>
 C.ret (.tuple #[(.agg z3), (.int .i64 5)])
 ) (
 C.ix x0.a x0.n 1 64 fun p13 =>
 C.ld (.int .u8) 1 p13 fun v14 =>
 cond (decide ((x0.n : Int) < (IntKind.wrap .i64 (65 + (IntKind.wrap .i64 (v14)))))) (
 C.pur (Instr.build ty_impl_MapNode #[]) .agg fun y19 =>
 C.st 66 (Addr.mk b2 0 none) (.agg y19) <|
 C.ld .agg 66 (Addr.mk b2 0 none) fun z7 =>
 C.ret (.tuple #[(.agg z7), (.int .i64 5)])
 ) (
 jt []
 )
 )
theorem impl_ReadMapNode_eq (C : Comb) (x0 : Sl) : fT C Tryz.prog ⟨[], [(54, []), (13, [(5, .ptr)])], [4], []⟩ n_impl_ReadMapNode [(.slice x0.a x0.n x0.c)] = impl_ReadMapNode C x0 := by kernel_rfl
theorem impl_ReadMapNode_calls {R : Value → World → Prop} {w : World} (x0 : Sl) (h : (impl_ReadMapNode (real Tryz.prog R) x0 : World → Prop) w) :
    Calls Tryz.prog n_impl_ReadMapNode [(.slice x0.a x0.n x0.c)].toArray w fun e w' => ∃ v, e = .returned v ∧ R v w' := fT_sound mixed ⟨[], [(54, []), (13, [(5, .ptr)])], [4], []⟩ (by rw [impl_ReadMapNode_eq]; exact h)

def impl_EmptyMapKey (C : Comb)  : C.St :=
 C.new ty_impl_Key (.agg (Array.replicate 32 (.int .u8 0))) fun b0 =>
 C.call n_impl_hash [(.int .u8 5), (.slice none 0 0)] [.agg] fun r1 =>
 C.st 32 (Addr.mk b0 0 none) (.agg r1) <|
 C.ld .agg 32 (Addr.mk b0 0 none) fun z3 =>
 C.ret (.agg z3)
theorem impl_EmptyMapKey_eq (C : Comb)  : fT C Tryz.prog ⟨[], [], [], []⟩ n_impl_EmptyMapKey [] = impl_EmptyMapKey C  := by kernel_rfl
theorem impl_EmptyMapKey_calls {R : Value → World → Prop} {w : World}  (h : (impl_EmptyMapKey (real Tryz.prog R)  : World → Prop) w) :
    Calls Tryz.prog n_impl_EmptyMapKey [].toArray w fun e w' => ∃ v, e = .returned v ∧ R v w' := fT_sound mixed ⟨[], [], [], []⟩ (by rw [impl_EmptyMapKey_eq]; exact h)

def impl_Blob_links_1 (C : Comb) (x0 : Array Value) (x1 : Addr) : C.St :=
 C.new ty_impl_Key (.agg x0) fun b2 =>
 C.ld .agg 32 (Addr.mk b2 0 none) fun v4 =>
 C.ld .agg 32 x1 fun v5 =>
 C.pur (eqB .eql ty_impl_Key (.tmp 4) (.tmp 5) (.agg v4) (.agg v5)) .bool fun y6 =>
 C.ret (.bool y6)
theorem impl_Blob_links_1_eq (C : Comb) (x0 : Array Value) (x1 : Addr) : fT C Tryz.prog ⟨[], [], [], []⟩ n_impl_Blob_links_1 [(.agg x0), (.pointer (some x1))] = impl_Blob_links_1 C x0 x1 := by kernel_rfl
theorem impl_Blob_links_1_calls {R : Value → World → Prop} {w : World} (x0 : Array Value) (x1 : Addr) (h : (impl_Blob_links_1 (real Tryz.prog R) x0 x1 : World → Prop) w) :
    Calls Tryz.prog n_impl_Blob_links_1 [(.agg x0), (.pointer (some x1))].toArray w fun e w' => ∃ v, e = .returned v ∧ R v w' := fT_sound mixed ⟨[], [], [], []⟩ (by rw [impl_Blob_links_1_eq]; exact h)

def spec_l05Keys (C : Comb) (x0 : Sl) (x1 : Int) (x2 : Int) : C.St :=
 C.sem (Instr.buildSlice ty_sl_impl_Key 0 #[]) .slice fun y11 =>
 C.loop (TL [.slice, (.int .i64)]) (embL [.slice, (.int .i64)]) [(.slice y11.a y11.n y11.c), (.int .i64 0)] fun s2 ct2 => C.any fun _ =>
 cond (decide (s2.2 < x2)) (
 C.new ty_impl_Key (.agg (Array.replicate 32 (.int .u8 0))) fun b9 =>
 C.st 32 (Addr.mk b9 0 none) (.agg (Array.replicate 32 (.int .u8 0))) <|
 C.loop (TL [(.int .i64)]) (embL [(.int .i64)]) [(.int .i64 0)] fun s4 ct4 => C.any fun _ =>
 cond (decide (s4 < 32)) (
 C.ix x0.a x0.n 1 (IntKind.wrap .i64 ((IntKind.wrap .i64 (x1 + (IntKind.wrap .i64 (32 * s2.2)))) + s4)) fun p30 =>
 C.ld (.int .u8) 1 p30 fun v31 =>
 C.ix (some (Addr.mk b9 0 none)) 32 1 s4 fun p32 =>
 C.st 1 p32 (.int .u8 v31) <|
 ct4 [(.int .i64 (IntKind.wrap .i64 (s4 + 1)))]
 ) (
 C.ld .agg 32 (Addr.mk b9 0 none) fun v34 =>
 C.sem (Instr.buildSlice ty_sl_impl_Key 1 #[(0, (.agg v34))]) .slice fun y35 =>
 C.sem (Builtin.append_ #[ty_sl_impl_Key, ty_sl_impl_Key] ty_sl_impl_Key #[(.slice s2.1.a s2.1.n s2.1.c), (.slice y35.a y35.n y35.c)]) .slice fun y36 =>
 ct2 [(.slice y36.a y36.n y36.c), (.int .i64 (IntKind.wrap .i64 (s2.2 + 1)))]
 )
 ) (
 C.ret (.slice s2.1.a s2.1.n s2.1.c)
 )
theorem spec_l05Keys_eq (C : Comb) (x0 : Sl) (x1 : Int) (x2 : Int) : fT C Tryz.prog ⟨[(3, [(7, .slice), (8, (.int .i64))]), (7, [(10, (.int .i64))])], [], [], []⟩ n_spec_l05Keys [(.slice x0.a x0.n x0.c), (.int .i64 x1), (.int .i64 x2)] = spec_l05Keys C x0 x1 x2 := by kernel_rfl
theorem spec_l05Keys_calls {R : Value → World → Prop} {w : World} (x0 : Sl) (x1 : Int) (x2 : Int) (h : (spec_l05Keys (real Tryz.prog R) x0 x1 x2 : World → Prop) w) :
    Calls Tryz.prog n_spec_l05Keys [(.slice x0.a x0.n x0.c), (.int .i64 x1), (.int .i64 x2)].toArray w fun e w' => ∃ v, e = .returned v ∧ R v w' := fT_sound mixed ⟨[(3, [(7, .slice), (8, (.int .i64))]), (7, [(10, (.int .i64))])], [], [], []⟩ (by rw [spec_l05Keys_eq]; exact h)

def spec_l04Read (C : Comb) (x0 : Sl) : C.St :=
 C.new ty_impl_MapNode (.agg (#[(.int .u8 0), (.int .u8 0), (.int .u8 0), (.int .u8 0), (.int .u8 0), (.int .u8 0), (.int .u8 0), (.int .u8 0), (.int .u8 0), (.int .u8 0), (.int .u8 0), (.int .u8 0), (.int .u8 0), (.int .u8 0), (.int .u8 0), (.int .u8 0), (.int .u8 0), (.int .u8 0), (.int .u8 0), (.int .u8 0), (.int .u8 0), (.int .u8 0), (.int .u8 0), (.int .u8 0), (.int .u8 0), (.int .u8 0), (.int .u8 0), (.int .u8 0), (.int .u8 0), (.int .u8 0), (.int .u8 0), (.int .u8 0), (.int .u8 0), (.int .u8 0), (.int .u8 0), (.int .u8 0), (.int .u8 0), (.int .u8 0), (.int .u8 0), (.int .u8 0), (.int .u8 0), (.int .u8 0), (.int .u8 0), (.int .u8 0), (.int .u8 0), (.int .u8 0), (.int .u8 0), (.int .u8 0), (.int .u8 0), (.int .u8 0), (.int .u8 0), (.int .u8 0), (.int .u8 0), (.int .u8 0), (.int .u8 0), (.int .u8 0), (.int .u8 0), (.int .u8 0), (.int .u8 0), (.int .u8 0), (.int .u8 0), (.int .u8 0), (.int .u8 0), (.int .u8 0), (.string (⟨#[]⟩ : ByteArray)), (.string (⟨#[]⟩ : ByteArray))])) fun b2 =>
 C.pur (Instr.build ty_impl_MapNode #[]) .agg fun y7 =>
 C.new ty_impl_MapNode (.agg (#[(.int .u8 0), (.int .u8 0), (.int .u8 0), (.int .u8 0), (.int .u8 0), (.int .u8 0), (.int .u8 0), (.int .u8 0), (.int .u8 0), (.int .u8 0), (.int .u8 0), (.int .u8 0), (.int .u8 0), (.int .u8 0), (.int .u8 0), (.int .u8 0), (.int .u8 0), (.int .u8 0), (.int .u8 0), (.int .u8 0), (.int .u8 0), (.int .u8 0), (.int .u8 0), (.int .u8 0), (.int .u8 0), (.int .u8 0), (.int .u8 0), (.int .u8 0), (.int .u8 0), (.int .u8 0), (.int .u8 0), (.int .u8 0), (.int .u8 0), (.int .u8 0), (.int .u8 0), (.int .u8 0), (.int .u8 0), (.int .u8 0), (.int .u8 0), (.int .u8 0), (.int .u8 0), (.int .u8 0), (.int .u8 0), (.int .u8 0), (.int .u8 0), (.int .u8 0), (.int .u8 0), (.int .u8 0), (.int .u8 0), (.int .u8 0), (.int .u8 0), (.int .u8 0), (.int .u8 0), (.int .u8 0), (.int .u8 0), (.int .u8 0), (.int .u8 0), (.int .u8 0), (.int .u8 0), (.int .u8 0), (.int .u8 0), (.int .u8 0), (.int .u8 0), (.int .u8 0), (.string (⟨#[]⟩ : ByteArray)), (.string (⟨#[]⟩ : ByteArray))])) fun b4 =>
 C.st 66 (Addr.mk b4 0 none) (.agg y7) <|
 C.join (TL []) (embL []) (fun s8 => C.any fun _ =>
 C.ix x0.a x0.n 1 64 fun p18 =>
 C.ld (.int .u8) 1 p18 fun v19 =>
 cond (decide ((x0.n : Int) < (IntKind.wrap .i64 (65 + (IntKind.wrap .i64 (v19)))))) (
 C.ld .agg 66 (Addr.mk b4 0 none) fun v26 =>
 C.st 66 (Addr.mk b2 0 none) (.agg v26) <|
 C.ld .agg 66 (Addr.mk b2 0 none) fun z12 =>
 C.ret (.tuple #[(.agg z12), (.bool false)])
 ) (
 C.loop (TL [(.int .i64)]) (embL [(.int .i64)]) [(.int .i64 0)] fun s13 ct13 => C.any fun _ =>
 cond (decide (s13 < 32)) (
 C.ix x0.a x0.n 1 s13 fun p34 =>
 C.ld (.int .u8) 1 p34 fun v35 =>
 C.ix (some ((Addr.mk b4 0 none).add 0)) 32 1 s13 fun p37 =>
 C.st 1 p37 (.int .u8 v35) <|
 C.ix x0.a x0.n 1 (IntKind.wrap .i64 (32 + s13)) fun p42 =>
 C.ld (.int .u8) 1 p42 fun v43 =>
 C.ix (some ((Addr.mk b4 0 none).add 32)) 32 1 s13 fun p45 =>
 C.st 1 p45 (.int .u8 v43) <|
 ct13 [(.int .i64 (IntKind.wrap .i64 (s13 + 1)))]
 ) (
 C.draw <|
 C.sl x0.a x0.n x0.c 1 (some 65) (some (IntKind.wrap .i64 (65 + (IntKind.wrap .i64 (v19))))) none fun y49 =>
 C.sl x0.a x0.n x0.c 1 (some (IntKind.wrap .i64 (65 + (IntKind.wrap .i64 (v19))))) none none fun y54 =>
 C.all [
 (C.sem (convert ty_sl_uint8 ty_string (.slice y49.a y49.n y49.c)) .str fun y50 =>
 C.sem (convert ty_sl_uint8 ty_string (.slice y54.a y54.n y54.c)) .str fun y55 =>
 C.pur (Instr.build ty_impl_Entry #[(0, (.string y50)), (1, (.string y55))]) .agg fun y56 =>
 C.st 2 ((Addr.mk b4 0 none).add 64) (.agg y56) <|
 C.draw <|
 C.ld .agg 66 (Addr.mk b4 0 none) fun v58 =>
 C.call n_spec_l04Entry [(.pointer (some ((Addr.mk b4 0 none).add 64)))] [.bool] fun r60 =>
 C.chk [⟨0, 66, (Addr.mk b4 0 none), .agg, v58⟩] <|
 C.st 66 (Addr.mk b2 0 none) (.agg v58) <|
 C.ld .agg 66 (Addr.mk b2 0 none) fun z27 =>
 C.ret (.tuple #[(.agg z27), (.bool r60)])),
 (C.sem (convert ty_sl_uint8 ty_string (.slice y54.a y54.n y54.c)) .str fun y55 =>
 C.sem (convert ty_sl_uint8 ty_string (.slice y49.a y49.n y49.c)) .str fun y50 =>
 C.pur (Instr.build ty_impl_Entry #[(0, (.string y50)), (1, (.string y55))]) .agg fun y56 =>
 C.st 2 ((Addr.mk b4 0 none).add 64) (.agg y56) <|
 C.draw <|
 C.ld .agg 66 (Addr.mk b4 0 none) fun v58 =>
 C.call n_spec_l04Entry [(.pointer (some ((Addr.mk b4 0 none).add 64)))] [.bool] fun r60 =>
 C.chk [⟨0, 66, (Addr.mk b4 0 none), .agg, v58⟩] <|
 C.st 66 (Addr.mk b2 0 none) (.agg v58) <|
 C.ld .agg 66 (Addr.mk b2 0 none) fun z33 =>
 C.ret (.tuple #[(.agg z33), (.bool r60)]))]
 )
 )
 ) fun jt =>
 cond (decide ((x0.n : Int) < 66)) (
 C.ld .agg 66 (Addr.mk b4 0 none) fun v16 =>
 C.st 66 (Addr.mk b2 0 none) (.agg v16) <|
 C.ld .agg 66 (Addr.mk b2 0 none) fun z5 =>
 C.ret (.tuple #[(.agg z5), (.bool false)])
 ) (
 cond (decide ((x0.n : Int) > 153)) (
 C.ld .agg 66 (Addr.mk b4 0 none) fun v16 =>
 C.st 66 (Addr.mk b2 0 none) (.agg v16) <|
 C.ld .agg 66 (Addr.mk b2 0 none) fun z7 =>
 C.ret (.tuple #[(.agg z7), (.bool false)])
 ) (
 jt []
 )
 )
theorem spec_l04Read_eq (C : Comb) (x0 : Sl) : fT C Tryz.prog ⟨[(8, [(6, (.int .i64))])], [(45, [])], [12, 13], []⟩ n_spec_l04Read [(.slice x0.a x0.n x0.c)] = spec_l04Read C x0 := by kernel_rfl
theorem spec_l04Read_calls {R : Value → World → Prop} {w : World} (x0 : Sl) (h : (spec_l04Read (real Tryz.prog R) x0 : World → Prop) w) :
    Calls Tryz.prog n_spec_l04Read [(.slice x0.a x0.n x0.c)].toArray w fun e w' => ∃ v, e = .returned v ∧ R v w' := fT_sound mixed ⟨[(8, [(6, (.int .i64))])], [(45, [])], [12, 13], []⟩ (by rw [spec_l04Read_eq]; exact h)

def spec_l04Empty (C : Comb)  : C.St :=
 C.new ty_impl_Key (.agg (Array.replicate 32 (.int .u8 0))) fun b0 =>
 C.sem (Instr.buildSlice ty_sl_uint8 0 #[]) .slice fun y1 =>
 C.call n_spec_l01Hash [(.int .u8 5), (.slice y1.a y1.n y1.c)] [.agg] fun r2 =>
 C.st 32 (Addr.mk b0 0 none) (.agg r2) <|
 C.ld .agg 32 (Addr.mk b0 0 none) fun z4 =>
 C.ret (.agg z4)
theorem spec_l04Empty_eq (C : Comb)  : fT C Tryz.prog ⟨[], [], [], []⟩ n_spec_l04Empty [] = spec_l04Empty C  := by kernel_rfl
theorem spec_l04Empty_calls {R : Value → World → Prop} {w : World}  (h : (spec_l04Empty (real Tryz.prog R)  : World → Prop) w) :
    Calls Tryz.prog n_spec_l04Empty [].toArray w fun e w' => ∃ v, e = .returned v ∧ R v w' := fT_sound mixed ⟨[], [], [], []⟩ (by rw [spec_l04Empty_eq]; exact h)

def slices_Concat_sl_byte_byte (C : Comb) (x0 : Sl) : C.St :=
 C.loop (TL [(.int .i64), (.int .i64)]) (embL [(.int .i64), (.int .i64)]) [(.int .i64 0), (.int .i64 0)] fun s1 ct1 => C.any fun _ =>
 cond (decide (s1.2 < (x0.n : Int))) (
 C.ix x0.a x0.n 1 s1.2 fun p13 =>
 C.ld .slice 1 p13 fun v14 =>
 cond (decide ((IntKind.wrap .i64 (s1.1 + (v14.n : Int))) < 0)) (
 C.pur (Instr.makeInterface ty_string (.string (⟨#[108, 101, 110, 32, 111, 117, 116, 32, 111, 102, 32, 114, 97, 110, 103, 101]⟩ : ByteArray))) .val fun y21 =>
 C.fail
 ) (
 ct1 [(.int .i64 (IntKind.wrap .i64 (s1.1 + (v14.n : Int)))), (.int .i64 (IntKind.wrap .i64 (s1.2 + 1)))]
 )
 ) (
 C.call n_slices_Grow_sl_byte_byte [(.slice none 0 0), (.int .i64 s1.1)] [.slice] fun r24 =>
 C.loop (TL [.slice, (.int .i64)]) (embL [.slice, (.int .i64)]) [(.slice r24.a r24.n r24.c), (.int .i64 0)] fun s6 ct6 => C.any fun _ =>
 cond (decide (s6.2 < (x0.n : Int))) (
 C.ix x0.a x0.n 1 s6.2 fun p29 =>
 C.ld .slice 1 p29 fun v30 =>
 C.sem (Builtin.append_ #[ty_sl_uint8, ty_sl_uint8] ty_sl_uint8 #[(.slice s6.1.a s6.1.n s6.1.c), (.slice v30.a v30.n v30.c)]) .slice fun y33 =>
 ct6 [(.slice y33.a y33.n y33.c), (.int .i64 (IntKind.wrap .i64 (s6.2 + 1)))]
 ) (
 C.ret (.slice s6.1.a s6.1.n s6.1.c)
 )
 )
theorem slices_Concat_sl_byte_byte_eq (C : Comb) (x0 : Sl) : fT C Tryz.prog ⟨[(3, [(3, (.int .i64)), (11, (.int .i64))]), (11, [(6, .slice), (27, (.int .i64))])], [], [], []⟩ n_slices_Concat_sl_byte_byte [(.slice x0.a x0.n x0.c)] = slices_Concat_sl_byte_byte C x0 := by kernel_rfl
theorem slices_Concat_sl_byte_byte_calls {R : Value → World → Prop} {w : World} (x0 : Sl) (h : (slices_Concat_sl_byte_byte (real Tryz.prog R) x0 : World → Prop) w) :
    Calls Tryz.prog n_slices_Concat_sl_byte_byte [(.slice x0.a x0.n x0.c)].toArray w fun e w' => ∃ v, e = .returned v ∧ R v w' := fT_sound mixed ⟨[(3, [(3, (.int .i64)), (11, (.int .i64))]), (11, [(6, .slice), (27, (.int .i64))])], [], [], []⟩ (by rw [slices_Concat_sl_byte_byte_eq]; exact h)

end Go.Proofs.YtkifkdkjljcclaaGreat
