/- Printed by a program of this claim's author: each Go function as a Lean function over abstract combinators, and the equation that says that T makes it of the loaded code. -/
import Derived.Test.YtkifkdkjljcclaaGreatProg
import Derived.Test.YtkifkdkjljcclaaGreatPkLTor09
namespace Go.Proofs.YtkifkdkjljcclaaGreat
open Go.Sx
def spec_l04Entry (C : Comb) (x0 : Addr) : C.St :=
 C.ld .str 1 (x0.add 0) fun v6 =>
 C.call n_spec_l04Name [(.string v6)] [.bool] fun r7 =>
 cond r7 (
 C.ld .str 1 (x0.add 1) fun v12 =>
 C.ret (.bool (decide ((v12.size : Int) ≤ 64)))
 ) (
 C.ret (.bool false)
 )
theorem spec_l04Entry_eq (C : Comb) (x0 : Addr) : fT C Tryz.prog ⟨[], [], [], []⟩ n_spec_l04Entry [(.pointer (some x0))] = spec_l04Entry C x0 := by kernel_rfl
theorem spec_l04Entry_calls {R : Value → World → Prop} {w : World} (x0 : Addr) (h : (spec_l04Entry (real Tryz.prog R) x0 : World → Prop) w) :
    Calls Tryz.prog n_spec_l04Entry [(.pointer (some x0))].toArray w fun e w' => ∃ v, e = .returned v ∧ R v w' := fT_sound mixed ⟨[], [], [], []⟩ (by rw [spec_l04Entry_eq]; exact h)

def spec_l04Top (C : Comb) (x0 : Sl) : C.St :=
 C.ix x0.a x0.n 2 0 fun p8 =>
 C.ld .str 1 (p8.add 0) fun v10 =>
 C.call n_spec_l04Priority [(.string v10)] [.agg] fun r11 =>
 C.new ty_impl_Key (.agg (Array.replicate 32 (.int .u8 0))) fun b4 =>
 C.st 32 (Addr.mk b4 0 none) (.agg r11) <|
 C.loop (TL [(.int .i64), (.int .i64)]) (embL [(.int .i64), (.int .i64)]) [(.int .i64 0), (.int .i64 1)] fun s5 ct5 => C.any fun _ =>
 cond (decide (s5.2 < (x0.n : Int))) (
 C.ix x0.a x0.n 2 s5.2 fun p20 =>
 C.ld .str 1 (p20.add 0) fun v22 =>
 C.call n_spec_l04Priority [(.string v22)] [.agg] fun r23 =>
 C.new ty_impl_Key (.agg (Array.replicate 32 (.int .u8 0))) fun b6 =>
 C.st 32 (Addr.mk b6 0 none) (.agg r23) <|
 C.ld .agg 32 (Addr.mk b6 0 none) fun v24 =>
 C.ld .agg 32 (Addr.mk b4 0 none) fun v25 =>
 C.call n_spec_l01Compare [(.agg v24), (.agg v25)] [(.int .i64)] fun r26 =>
 cond (decide (r26 > 0)) (
 C.ld .agg 32 (Addr.mk b6 0 none) fun v29 =>
 C.st 32 (Addr.mk b4 0 none) (.agg v29) <|
 ct5 [(.int .i64 s5.2), (.int .i64 (IntKind.wrap .i64 (s5.2 + 1)))]
 ) (
 ct5 [(.int .i64 s5.1), (.int .i64 (IntKind.wrap .i64 (s5.2 + 1)))]
 )
 ) (
 C.ret (.int .i64 s5.1)
 )
theorem spec_l04Top_eq (C : Comb) (x0 : Sl) : fT C Tryz.prog ⟨[(4, [(3, (.int .i64)), (5, (.int .i64))])], [], [], []⟩ n_spec_l04Top [(.slice x0.a x0.n x0.c)] = spec_l04Top C x0 := by kernel_rfl
theorem spec_l04Top_calls {R : Value → World → Prop} {w : World} (x0 : Sl) (h : (spec_l04Top (real Tryz.prog R) x0 : World → Prop) w) :
    Calls Tryz.prog n_spec_l04Top [(.slice x0.a x0.n x0.c)].toArray w fun e w' => ∃ v, e = .returned v ∧ R v w' := fT_sound mixed ⟨[(4, [(3, (.int .i64)), (5, (.int .i64))])], [], [], []⟩ (by rw [spec_l04Top_eq]; exact h)

def spec_l04NodeKey (C : Comb) (x0 : Addr) : C.St :=
 C.new ty_impl_Key (.agg (Array.replicate 32 (.int .u8 0))) fun b2 =>
 C.call n_spec_l04Bytes [(.pointer (some x0))] [.slice] fun r4 =>
 C.call n_spec_l01Hash [(.int .u8 5), (.slice r4.a r4.n r4.c)] [.agg] fun r5 =>
 C.st 32 (Addr.mk b2 0 none) (.agg r5) <|
 C.ld .agg 32 (Addr.mk b2 0 none) fun z4 =>
 C.ret (.agg z4)
theorem spec_l04NodeKey_eq (C : Comb) (x0 : Addr) : fT C Tryz.prog ⟨[], [], [], []⟩ n_spec_l04NodeKey [(.pointer (some x0))] = spec_l04NodeKey C x0 := by kernel_rfl
theorem spec_l04NodeKey_calls {R : Value → World → Prop} {w : World} (x0 : Addr) (h : (spec_l04NodeKey (real Tryz.prog R) x0 : World → Prop) w) :
    Calls Tryz.prog n_spec_l04NodeKey [(.pointer (some x0))].toArray w fun e w' => ∃ v, e = .returned v ∧ R v w' := fT_sound mixed ⟨[], [], [], []⟩ (by rw [spec_l04NodeKey_eq]; exact h)

def spec_l03Half (C : Comb) (x0 : Int) : C.St :=
 C.loop (TL [(.int .i64)]) (embL [(.int .i64)]) [(.int .i64 1)] fun s1 ct1 => C.any fun _ =>
 cond (decide ((IntKind.wrap .i64 (2 * s1)) < x0)) (
 ct1 [(.int .i64 (IntKind.wrap .i64 (2 * s1)))]
 ) (
 C.ret (.int .i64 s1)
 )
theorem spec_l03Half_eq (C : Comb) (x0 : Int) : fT C Tryz.prog ⟨[(2, [(3, (.int .i64))])], [], [], []⟩ n_spec_l03Half [(.int .i64 x0)] = spec_l03Half C x0 := by kernel_rfl
theorem spec_l03Half_calls {R : Value → World → Prop} {w : World} (x0 : Int) (h : (spec_l03Half (real Tryz.prog R) x0 : World → Prop) w) :
    Calls Tryz.prog n_spec_l03Half [(.int .i64 x0)].toArray w fun e w' => ∃ v, e = .returned v ∧ R v w' := fT_sound mixed ⟨[(2, [(3, (.int .i64))])], [], [], []⟩ (by rw [spec_l03Half_eq]; exact h)

def spec_l06Match (C : Comb) (x0 : Sl) (x1 : Sl) : C.St :=
 C.loop (TL [(.int .i64)]) (embL [(.int .i64)]) [(.int .i64 0)] fun s1 ct1 => C.any fun _ =>
 C.draw <|
 cond (decide (s1 < (x0.n : Int))) (
 cond (decide (s1 < (x1.n : Int))) (
 cond (decide (s1 < 255)) (
 C.ix x0.a x0.n 1 s1 fun p23 =>
 C.ld (.int .u8) 1 p23 fun v24 =>
 C.ix x1.a x1.n 1 s1 fun p27 =>
 C.ld (.int .u8) 1 p27 fun v28 =>
 cond (v24 == v28) (
 ct1 [(.int .i64 (IntKind.wrap .i64 (s1 + 1)))]
 ) (
 C.ret (.int .i64 s1)
 )
 ) (
 C.ret (.int .i64 s1)
 )
 ) (
 C.ret (.int .i64 s1)
 )
 ) (
 C.ret (.int .i64 s1)
 )
theorem spec_l06Match_eq (C : Comb) (x0 : Sl) (x1 : Sl) : fT C Tryz.prog ⟨[(2, [(5, (.int .i64))])], [], [], []⟩ n_spec_l06Match [(.slice x0.a x0.n x0.c), (.slice x1.a x1.n x1.c)] = spec_l06Match C x0 x1 := by kernel_rfl
theorem spec_l06Match_calls {R : Value → World → Prop} {w : World} (x0 : Sl) (x1 : Sl) (h : (spec_l06Match (real Tryz.prog R) x0 x1 : World → Prop) w) :
    Calls Tryz.prog n_spec_l06Match [(.slice x0.a x0.n x0.c), (.slice x1.a x1.n x1.c)].toArray w fun e w' => ∃ v, e = .returned v ∧ R v w' := fT_sound mixed ⟨[(2, [(5, (.int .i64))])], [], [], []⟩ (by rw [spec_l06Match_eq]; exact h)

def spec_l06Plain (C : Comb) (x0 : Sl) (x1 : Sl) : C.St :=
 C.loop (TL [.slice, .slice]) (embL [.slice, .slice]) [(.slice x0.a x0.n x0.c), (.slice x1.a x1.n x1.c)] fun s1 ct1 => C.any fun _ =>
 cond (decide ((s1.2.n : Int) > 0)) (
 C.join (TL [(.int .i64)]) (embL [(.int .i64)]) (fun s2 => C.any fun _ =>
 C.sem (Instr.buildSlice ty_sl_uint8 2 #[(0, (.int .u8 0)), (1, (.int .u8 (IntKind.wrap .u8 (s2))))]) .slice fun y16 =>
 C.sem (Builtin.append_ #[ty_sl_uint8, ty_sl_uint8] ty_sl_uint8 #[(.slice s1.1.a s1.1.n s1.1.c), (.slice y16.a y16.n y16.c)]) .slice fun y17 =>
 C.sl s1.2.a s1.2.n s1.2.c 1 none (some s2) none fun y21 =>
 C.sem (Builtin.append_ #[ty_sl_uint8, ty_sl_uint8] ty_sl_uint8 #[(.slice y17.a y17.n y17.c), (.slice y21.a y21.n y21.c)]) .slice fun y22 =>
 C.sl s1.2.a s1.2.n s1.2.c 1 (some s2) none none fun y25 =>
 ct1 [(.slice y22.a y22.n y22.c), (.slice y25.a y25.n y25.c)]
 ) fun jt =>
 cond (decide ((s1.2.n : Int) > 255)) (
 jt [(.int .i64 255)]
 ) (
 jt [(.int .i64 (s1.2.n : Int))]
 )
 ) (
 C.ret (.slice s1.1.a s1.1.n s1.1.c)
 )
theorem spec_l06Plain_eq (C : Comb) (x0 : Sl) (x1 : Sl) : fT C Tryz.prog ⟨[(1, [(0, .slice), (1, .slice)])], [(36, [(5, (.int .i64))])], [], []⟩ n_spec_l06Plain [(.slice x0.a x0.n x0.c), (.slice x1.a x1.n x1.c)] = spec_l06Plain C x0 x1 := by kernel_rfl
theorem spec_l06Plain_calls {R : Value → World → Prop} {w : World} (x0 : Sl) (x1 : Sl) (h : (spec_l06Plain (real Tryz.prog R) x0 x1 : World → Prop) w) :
    Calls Tryz.prog n_spec_l06Plain [(.slice x0.a x0.n x0.c), (.slice x1.a x1.n x1.c)].toArray w fun e w' => ∃ v, e = .returned v ∧ R v w' := fT_sound mixed ⟨[(1, [(0, .slice), (1, .slice)])], [(36, [(5, (.int .i64))])], [], []⟩ (by rw [spec_l06Plain_eq]; exact h)

def bytes_HasPrefix (C : Comb) (x0 : Sl) (x1 : Sl) : C.St :=
 cond (decide ((x0.n : Int) ≥ (x1.n : Int))) (
 C.sl x0.a x0.n x0.c 1 none (some (x1.n : Int)) none fun y14 =>
 C.call n_bytes_Equal [(.slice y14.a y14.n y14.c), (.slice x1.a x1.n x1.c)] [.bool] fun r16 =>
 C.ret (.bool r16)
 ) (
 C.ret (.bool false)
 )
theorem bytes_HasPrefix_eq (C : Comb) (x0 : Sl) (x1 : Sl) : fT C Tryz.prog ⟨[], [], [], []⟩ n_bytes_HasPrefix [(.slice x0.a x0.n x0.c), (.slice x1.a x1.n x1.c)] = bytes_HasPrefix C x0 x1 := by kernel_rfl
theorem bytes_HasPrefix_calls {R : Value → World → Prop} {w : World} (x0 : Sl) (x1 : Sl) (h : (bytes_HasPrefix (real Tryz.prog R) x0 x1 : World → Prop) w) :
    Calls Tryz.prog n_bytes_HasPrefix [(.slice x0.a x0.n x0.c), (.slice x1.a x1.n x1.c)].toArray w fun e w' => ∃ v, e = .returned v ∧ R v w' := fT_sound mixed ⟨[], [], [], []⟩ (by rw [bytes_HasPrefix_eq]; exact h)

def impl_littleNumber (C : Comb) (x0 : Sl) : C.St :=
 C.loop (TL [(.int .u64), (.int .i64)]) (embL [(.int .u64), (.int .i64)]) [(.int .u64 0), (.int .i64 0)] fun s1 ct1 => C.any fun _ =>
 cond (decide (s1.2 < (x0.n : Int))) (
 C.ix x0.a x0.n 1 s1.2 fun p11 =>
 C.ld (.int .u8) 1 p11 fun v12 =>
 C.pur (eqB .shl ty_uint64 (.tmp 15) (.tmp 17) (.int .u64 (IntKind.wrap .u64 (v12))) (.int .i64 (IntKind.wrap .i64 (8 * s1.2)))) (.int .u64) fun y18 =>
 ct1 [(.int .u64 (bitsI .or .u64 s1.1 y18)), (.int .i64 (IntKind.wrap .i64 (s1.2 + 1)))]
 ) (
 C.ret (.int .u64 s1.1)
 )
theorem impl_littleNumber_eq (C : Comb) (x0 : Sl) : fT C Tryz.prog ⟨[(3, [(3, (.int .u64)), (8, (.int .i64))])], [], [], []⟩ n_impl_littleNumber [(.slice x0.a x0.n x0.c)] = impl_littleNumber C x0 := by kernel_rfl
theorem impl_littleNumber_calls {R : Value → World → Prop} {w : World} (x0 : Sl) (h : (impl_littleNumber (real Tryz.prog R) x0 : World → Prop) w) :
    Calls Tryz.prog n_impl_littleNumber [(.slice x0.a x0.n x0.c)].toArray w fun e w' => ∃ v, e = .returned v ∧ R v w' := fT_sound mixed ⟨[(3, [(3, (.int .u64)), (8, (.int .i64))])], [], [], []⟩ (by rw [impl_littleNumber_eq]; exact h)

def impl_apply (C : Comb) (x0 : Sl) (x1 : Sl) : C.St :=
 C.sem (Instr.buildSlice ty_sl_uint8 0 #[]) .slice fun y10 =>
 C.loop (TL [.slice, .slice]) (embL [.slice, .slice]) [(.slice x1.a x1.n x1.c), (.slice y10.a y10.n y10.c)] fun s2 ct2 => C.any fun _ =>
 cond (decide ((s2.1.n : Int) > 0)) (
 C.join (TL [.bool]) (embL [.bool]) (fun s9 => C.any fun _ =>
 cond s9 (
 C.ix s2.1.a s2.1.n 1 1 fun p41 =>
 C.ld (.int .u8) 1 p41 fun v42 =>
 C.draw <|
 C.sl s2.1.a s2.1.n s2.1.c 1 (some 2) (some (IntKind.wrap .i64 (2 + (IntKind.wrap .i64 (v42))))) none fun y48 =>
 C.sl s2.1.a s2.1.n s2.1.c 1 (some (IntKind.wrap .i64 (2 + (IntKind.wrap .i64 (v42))))) none none fun y53 =>
 C.sem (Builtin.append_ #[ty_sl_uint8, ty_sl_uint8] ty_sl_uint8 #[(.slice s2.2.a s2.2.n s2.2.c), (.slice y48.a y48.n y48.c)]) .slice fun y49 =>
 ct2 [(.slice y53.a y53.n y53.c), (.slice y49.a y49.n y49.c)]
 ) (
 C.join (TL [.bool]) (embL [.bool]) (fun s19 => C.any fun _ =>
 cond s19 (
 C.draw <|
 C.sl s2.1.a s2.1.n s2.1.c 1 (some 1) (some 3) none fun y71 =>
 C.callQ n_impl_littleNumber [(.slice y71.a y71.n y71.c)] [(.int .u64)] fun r72 =>
 C.ix s2.1.a s2.1.n 1 3 fun p75 =>
 C.ld (.int .u8) 1 p75 fun v76 =>
 cond (decide ((IntKind.wrap .i64 ((IntKind.wrap .i64 (r72)) + (IntKind.wrap .i64 (v76)))) > (x0.n : Int))) (
 C.ret (.tuple #[(.slice none 0 0), (.int .i64 5)])
 ) (
 C.draw <|
 C.sl x0.a x0.n x0.c 1 (some (IntKind.wrap .i64 (r72))) (some (IntKind.wrap .i64 ((IntKind.wrap .i64 (r72)) + (IntKind.wrap .i64 (v76))))) none fun y90 =>
 C.sl s2.1.a s2.1.n s2.1.c 1 (some 4) none none fun y93 =>
 C.sem (Builtin.append_ #[ty_sl_uint8, ty_sl_uint8] ty_sl_uint8 #[(.slice s2.2.a s2.2.n s2.2.c), (.slice y90.a y90.n y90.c)]) .slice fun y91 =>
 ct2 [(.slice y93.a y93.n y93.c), (.slice y91.a y91.n y91.c)]
 )
 ) (
 C.ret (.tuple #[(.slice none 0 0), (.int .i64 5)])
 )
 ) fun jt =>
 C.ix s2.1.a s2.1.n 1 0 fun p56 =>
 C.ld (.int .u8) 1 p56 fun v57 =>
 cond (v57 == 1) (
 cond (decide ((s2.1.n : Int) > 3)) (
 C.ix s2.1.a s2.1.n 1 3 fun p66 =>
 C.ld (.int .u8) 1 p66 fun v67 =>
 jt [(.bool (decide (v67 > 0)))]
 ) (
 jt [(.bool false)]
 )
 ) (
 jt [(.bool false)]
 )
 )
 ) fun jt =>
 C.ix s2.1.a s2.1.n 1 0 fun p16 =>
 C.ld (.int .u8) 1 p16 fun v17 =>
 cond (v17 == 0) (
 cond (decide ((s2.1.n : Int) > 1)) (
 C.ix s2.1.a s2.1.n 1 1 fun p26 =>
 C.ld (.int .u8) 1 p26 fun v27 =>
 cond (decide (v27 > 0)) (
 C.ix s2.1.a s2.1.n 1 1 fun p34 =>
 C.ld (.int .u8) 1 p34 fun v35 =>
 jt [(.bool (decide ((s2.1.n : Int) ≥ (IntKind.wrap .i64 (2 + (IntKind.wrap .i64 (v35)))))))]
 ) (
 jt [(.bool false)]
 )
 ) (
 jt [(.bool false)]
 )
 ) (
 jt [(.bool false)]
 )
 ) (
 cond (decide ((s2.2.n : Int) > 1024)) (
 C.ret (.tuple #[(.slice none 0 0), (.int .i64 3)])
 ) (
 C.ret (.tuple #[(.slice s2.2.a s2.2.n s2.2.c), (.int .i64 0)])
 )
 )
theorem impl_apply_eq (C : Comb) (x0 : Sl) (x1 : Sl) : fT C Tryz.prog ⟨[(2, [(1, .slice), (6, .slice)])], [(13, [(14, .bool)]), (22, [(54, .bool)])], [6, 11], []⟩ n_impl_apply [(.slice x0.a x0.n x0.c), (.slice x1.a x1.n x1.c)] = impl_apply C x0 x1 := by kernel_rfl
theorem impl_apply_calls {R : Value → World → Prop} {w : World} (x0 : Sl) (x1 : Sl) (h : (impl_apply (real Tryz.prog R) x0 x1 : World → Prop) w) :
    Calls Tryz.prog n_impl_apply [(.slice x0.a x0.n x0.c), (.slice x1.a x1.n x1.c)].toArray w fun e w' => ∃ v, e = .returned v ∧ R v w' := fT_sound mixed ⟨[(2, [(1, .slice), (6, .slice)])], [(13, [(14, .bool)]), (22, [(54, .bool)])], [6, 11], []⟩ (by rw [impl_apply_eq]; exact h)

def bytes_Equal (C : Comb) (x0 : Sl) (x1 : Sl) : C.St :=
 C.sem (convert ty_sl_uint8 ty_string (.slice x0.a x0.n x0.c)) .str fun y6 =>
 C.sem (convert ty_sl_uint8 ty_string (.slice x1.a x1.n x1.c)) .str fun y8 =>
 C.pur (eqB .eql ty_string (.tmp 6) (.tmp 8) (.string y6) (.string y8)) .bool fun y9 =>
 C.ret (.bool y9)
theorem bytes_Equal_eq (C : Comb) (x0 : Sl) (x1 : Sl) : fT C Tryz.prog ⟨[], [], [], []⟩ n_bytes_Equal [(.slice x0.a x0.n x0.c), (.slice x1.a x1.n x1.c)] = bytes_Equal C x0 x1 := by kernel_rfl
theorem bytes_Equal_calls {R : Value → World → Prop} {w : World} (x0 : Sl) (x1 : Sl) (h : (bytes_Equal (real Tryz.prog R) x0 x1 : World → Prop) w) :
    Calls Tryz.prog n_bytes_Equal [(.slice x0.a x0.n x0.c), (.slice x1.a x1.n x1.c)].toArray w fun e w' => ∃ v, e = .returned v ∧ R v w' := fT_sound mixed ⟨[], [], [], []⟩ (by rw [bytes_Equal_eq]; exact h)

def impl_delta (C : Comb) (x0 : Sl) (x1 : Sl) : C.St :=
 C.sem (Instr.buildSlice ty_sl_uint8 0 #[]) .slice fun y13 =>
 C.sem (Instr.buildSlice ty_sl_uint8 0 #[]) .slice fun y14 =>
 C.new ty_sl_uint8 (.slice none 0 0) fun b5 =>
 C.new ty_sl_uint8 (.slice none 0 0) fun b6 =>
 C.st 1 (Addr.mk b5 0 none) (.slice y13.a y13.n y13.c) <|
 C.st 1 (Addr.mk b6 0 none) (.slice y14.a y14.n y14.c) <|
 C.loop (TL [(.int .i64)]) (embL [(.int .i64)]) [(.int .i64 0)] fun s5 ct5 => C.any fun _ =>
 cond (decide (s5 < (x1.n : Int))) (
 C.loop (TL [(.int .i64), (.int .i64), (.int .i64)]) (embL [(.int .i64), (.int .i64), (.int .i64)]) [(.int .i64 0), (.int .i64 0), (.int .i64 0)] fun s6 ct6 => C.any fun _ =>
 cond (decide (s6.2.2 < (x0.n : Int))) (
 C.join (TL [(.int .i64)]) (embL [(.int .i64)]) (fun s12 => C.any fun _ =>
 cond (decide (s12 > s6.2.1)) (
 ct6 [(.int .i64 s6.2.2), (.int .i64 s12), (.int .i64 (IntKind.wrap .i64 (s6.2.2 + 1)))]
 ) (
 ct6 [(.int .i64 s6.1), (.int .i64 s6.2.1), (.int .i64 (IntKind.wrap .i64 (s6.2.2 + 1)))]
 )
 ) fun jt =>
 C.loop (TL [(.int .i64)]) (embL [(.int .i64)]) [(.int .i64 0)] fun s7 ct7 => C.any fun _ =>
 C.draw <|
 cond (decide (s7 < 255)) (
 cond (decide ((IntKind.wrap .i64 (s6.2.2 + s7)) < (x0.n : Int))) (
 cond (decide ((IntKind.wrap .i64 (s5 + s7)) < (x1.n : Int))) (
 C.ix x0.a x0.n 1 (IntKind.wrap .i64 (s6.2.2 + s7)) fun p48 =>
 C.ld (.int .u8) 1 p48 fun v49 =>
 C.ix x1.a x1.n 1 (IntKind.wrap .i64 (s5 + s7)) fun p54 =>
 C.ld (.int .u8) 1 p54 fun v55 =>
 cond (v49 == v55) (
 ct7 [(.int .i64 (IntKind.wrap .i64 (s7 + 1)))]
 ) (
 jt [(.int .i64 s7)]
 )
 ) (
 jt [(.int .i64 s7)]
 )
 ) (
 jt [(.int .i64 s7)]
 )
 ) (
 jt [(.int .i64 s7)]
 )
 ) (
 cond (decide (s6.2.1 < 8)) (
 C.draw <|
 C.ld .slice 1 (Addr.mk b6 0 none) fun v68 =>
 C.ix x1.a x1.n 1 s5 fun p71 =>
 C.ld (.int .u8) 1 p71 fun v72 =>
 C.sem (Instr.buildSlice ty_sl_uint8 1 #[(0, (.int .u8 v72))]) .slice fun y73 =>
 C.chk [⟨0, 1, (Addr.mk b6 0 none), .slice, v68⟩] <|
 C.sem (Builtin.append_ #[ty_sl_uint8, ty_sl_uint8] ty_sl_uint8 #[(.slice v68.a v68.n v68.c), (.slice y73.a y73.n y73.c)]) .slice fun y74 =>
 C.st 1 (Addr.mk b6 0 none) (.slice y74.a y74.n y74.c) <|
 ct5 [(.int .i64 (IntKind.wrap .i64 (s5 + 1)))]
 ) (
 C.callV (.func (.func n_impl_delta_1) #[] #[(.pointer (some (Addr.mk b6 0 none))), (.pointer (some (Addr.mk b5 0 none)))]) [] [] fun r78 =>
 C.ld .slice 1 (Addr.mk b5 0 none) fun v79 =>
 C.sem (Instr.buildSlice ty_sl_uint8 1 #[(0, (.int .u8 1))]) .slice fun y80 =>
 C.sem (Builtin.append_ #[ty_sl_uint8, ty_sl_uint8] ty_sl_uint8 #[(.slice v79.a v79.n v79.c), (.slice y80.a y80.n y80.c)]) .slice fun y81 =>
 C.call n_impl_appendLittle [(.slice y81.a y81.n y81.c), (.int .u64 (IntKind.wrap .u64 ((IntKind.wrap .u16 (s6.1))))), (.int .i64 2)] [.slice] fun r85 =>
 C.sem (Instr.buildSlice ty_sl_uint8 1 #[(0, (.int .u8 (IntKind.wrap .u8 (s6.2.1))))]) .slice fun y88 =>
 C.sem (Builtin.append_ #[ty_sl_uint8, ty_sl_uint8] ty_sl_uint8 #[(.slice r85.a r85.n r85.c), (.slice y88.a y88.n y88.c)]) .slice fun y89 =>
 C.st 1 (Addr.mk b5 0 none) (.slice y89.a y89.n y89.c) <|
 ct5 [(.int .i64 (IntKind.wrap .i64 (s5 + s6.2.1)))]
 )
 )
 ) (
 C.callV (.func (.func n_impl_delta_1) #[] #[(.pointer (some (Addr.mk b6 0 none))), (.pointer (some (Addr.mk b5 0 none)))]) [] [] fun r94 =>
 C.ld .slice 1 (Addr.mk b5 0 none) fun v95 =>
 C.ret (.slice v95.a v95.n v95.c)
 )
theorem impl_delta_eq (C : Comb) (x0 : Sl) (x1 : Sl) : fT C Tryz.prog ⟨[(4, [(8, (.int .i64))]), (7, [(9, (.int .i64)), (10, (.int .i64)), (22, (.int .i64))]), (10, [(12, (.int .i64))])], [(32, [(12, (.int .i64))])], [16], []⟩ n_impl_delta [(.slice x0.a x0.n x0.c), (.slice x1.a x1.n x1.c)] = impl_delta C x0 x1 := by kernel_rfl
theorem impl_delta_calls {R : Value → World → Prop} {w : World} (x0 : Sl) (x1 : Sl) (h : (impl_delta (real Tryz.prog R) x0 x1 : World → Prop) w) :
    Calls Tryz.prog n_impl_delta [(.slice x0.a x0.n x0.c), (.slice x1.a x1.n x1.c)].toArray w fun e w' => ∃ v, e = .returned v ∧ R v w' := fT_sound mixed ⟨[(4, [(8, (.int .i64))]), (7, [(9, (.int .i64)), (10, (.int .i64)), (22, (.int .i64))]), (10, [(12, (.int .i64))])], [(32, [(12, (.int .i64))])], [16], []⟩ (by rw [impl_delta_eq]; exact h)

def impl_blocks (C : Comb) (x0 : Sl) : C.St :=
 C.sem (Instr.buildSlice ty_sl_arr32_uint8 0 #[]) .slice fun y5 =>
 C.loop (TL [.slice, .slice]) (embL [.slice, .slice]) [(.slice x0.a x0.n x0.c), (.slice y5.a y5.n y5.c)] fun s2 ct2 => C.any fun _ =>
 cond (decide ((s2.1.n : Int) ≥ 32)) (
 C.pur (Instr.arrayAt ty_arr32_uint8 (.slice s2.1.a s2.1.n s2.1.c)) .ptr fun y11 =>
 C.ld .agg 32 y11 fun v12 =>
 C.sem (Instr.buildSlice ty_sl_arr32_uint8 1 #[(0, (.agg v12))]) .slice fun y13 =>
 C.sem (Builtin.append_ #[ty_sl_arr32_uint8, ty_sl_arr32_uint8] ty_sl_arr32_uint8 #[(.slice s2.2.a s2.2.n s2.2.c), (.slice y13.a y13.n y13.c)]) .slice fun y14 =>
 C.sl s2.1.a s2.1.n s2.1.c 1 (some 32) none none fun y16 =>
 ct2 [(.slice y16.a y16.n y16.c), (.slice y14.a y14.n y14.c)]
 ) (
 C.ret (.tuple #[(.slice s2.2.a s2.2.n s2.2.c), (.slice s2.1.a s2.1.n s2.1.c)])
 )
theorem impl_blocks_eq (C : Comb) (x0 : Sl) : fT C Tryz.prog ⟨[(2, [(0, .slice), (4, .slice)])], [], [], []⟩ n_impl_blocks [(.slice x0.a x0.n x0.c)] = impl_blocks C x0 := by kernel_rfl
theorem impl_blocks_calls {R : Value → World → Prop} {w : World} (x0 : Sl) (h : (impl_blocks (real Tryz.prog R) x0 : World → Prop) w) :
    Calls Tryz.prog n_impl_blocks [(.slice x0.a x0.n x0.c)].toArray w fun e w' => ∃ v, e = .returned v ∧ R v w' := fT_sound mixed ⟨[(2, [(0, .slice), (4, .slice)])], [], [], []⟩ (by rw [impl_blocks_eq]; exact h)

def impl_padding (C : Comb) (x0 : Int) : C.St :=
 C.sem (Instr.buildSlice ty_sl_uint8 1 #[(0, (.int .u8 128))]) .slice fun y4 =>
 C.loop (TL [.slice]) (embL [.slice]) [(.slice y4.a y4.n y4.c)] fun s2 ct2 => C.any fun _ =>
 C.call n_impl_size_byte [(.slice s2.a s2.n s2.c)] [(.int .i64)] fun r7 =>
 cond ((Int.tmod (IntKind.wrap .i64 (x0 + r7)) 32) != 24) (
 C.sem (Instr.buildSlice ty_sl_uint8 1 #[(0, (.int .u8 0))]) .slice fun y12 =>
 C.sem (Builtin.append_ #[ty_sl_uint8, ty_sl_uint8] ty_sl_uint8 #[(.slice s2.a s2.n s2.c), (.slice y12.a y12.n y12.c)]) .slice fun y13 =>
 ct2 [(.slice y13.a y13.n y13.c)]
 ) (
 C.call n_impl_appendLittle [(.slice s2.a s2.n s2.c), (.int .u64 (IntKind.wrap .u64 (x0))), (.int .i64 8)] [.slice] fun r17 =>
 C.ret (.slice r17.a r17.n r17.c)
 )
theorem impl_padding_eq (C : Comb) (x0 : Int) : fT C Tryz.prog ⟨[(2, [(3, .slice)])], [], [], []⟩ n_impl_padding [(.int .i64 x0)] = impl_padding C x0 := by kernel_rfl
theorem impl_padding_calls {R : Value → World → Prop} {w : World} (x0 : Int) (h : (impl_padding (real Tryz.prog R) x0 : World → Prop) w) :
    Calls Tryz.prog n_impl_padding [(.int .i64 x0)].toArray w fun e w' => ∃ v, e = .returned v ∧ R v w' := fT_sound mixed ⟨[(2, [(3, .slice)])], [], [], []⟩ (by rw [impl_padding_eq]; exact h)

def impl_keyOf (C : Comb) (x0 : Array Value) : C.St :=
 C.new ty_arr8_uint32 (.agg x0) fun b1 =>
 C.new ty_impl_Key (.agg (Array.replicate 32 (.int .u8 0))) fun b2 =>
 C.new ty_impl_Key (.agg (Array.replicate 32 (.int .u8 0))) fun b3 =>
 C.st 32 (Addr.mk b3 0 none) (.agg (Array.replicate 32 (.int .u8 0))) <|
 C.ld .agg 8 (Addr.mk b1 0 none) fun v7 =>
 C.loop (TL [(.int .i64)]) (embL [(.int .i64)]) [(.int .i64 0)] fun s5 ct5 => C.any fun _ =>
 cond (decide (s5 < 8)) (
 C.ixV (.int .u32) v7 8 1 s5 fun y11 =>
 C.draw <|
 C.sl (some (Addr.mk b3 0 none)) 32 32 1 (some (IntKind.wrap .i64 (4 * s5))) none none fun y14 =>
 C.call n_impl_appendLittle [(.slice none 0 0), (.int .u64 (IntKind.wrap .u64 (y11))), (.int .i64 4)] [.slice] fun r17 =>
 C.sem (Builtin.copy_ #[ty_sl_uint8, ty_sl_uint8] ty_int #[(.slice y14.a y14.n y14.c), (.slice r17.a r17.n r17.c)]) (.int .i64) fun y18 =>
 ct5 [(.int .i64 (IntKind.wrap .i64 (s5 + 1)))]
 ) (
 C.ld .agg 32 (Addr.mk b3 0 none) fun v20 =>
 C.st 32 (Addr.mk b2 0 none) (.agg v20) <|
 C.ld .agg 32 (Addr.mk b2 0 none) fun z11 =>
 C.ret (.agg z11)
 )
theorem impl_keyOf_eq (C : Comb) (x0 : Array Value) : fT C Tryz.prog ⟨[(3, [(8, (.int .i64))])], [], [5], []⟩ n_impl_keyOf [(.agg x0)] = impl_keyOf C x0 := by kernel_rfl
theorem impl_keyOf_calls {R : Value → World → Prop} {w : World} (x0 : Array Value) (h : (impl_keyOf (real Tryz.prog R) x0 : World → Prop) w) :
    Calls Tryz.prog n_impl_keyOf [(.agg x0)].toArray w fun e w' => ∃ v, e = .returned v ∧ R v w' := fT_sound mixed ⟨[(3, [(8, (.int .i64))])], [], [5], []⟩ (by rw [impl_keyOf_eq]; exact h)

def impl_mixed (C : Comb) (x0 : Array Value) (x1 : Sl) : C.St :=
 C.new ty_arr8_uint32 (.agg x0) fun b2 =>
 C.new ty_arr8_uint32 (.agg (Array.replicate 8 (.int .u32 0))) fun b4 =>
 C.loop (TL [(.int .i64)]) (embL [(.int .i64)]) [(.int .i64 0)] fun s3 ct3 => C.any fun _ =>
 cond (decide (s3 < (x1.n : Int))) (
 C.ix x1.a x1.n 32 s3 fun p11 =>
 C.ld .agg 32 p11 fun v12 =>
 C.new ty_arr32_uint8 (.agg (Array.replicate 32 (.int .u8 0))) fun b6 =>
 C.st 32 (Addr.mk b6 0 none) (.agg v12) <|
 C.ld .agg 8 (Addr.mk b2 0 none) fun v13 =>
 C.ld .agg 32 (Addr.mk b6 0 none) fun v14 =>
 C.call n_impl_MixBlock [(.agg v13), (.agg v14)] [.agg] fun r15 =>
 C.st 8 (Addr.mk b2 0 none) (.agg r15) <|
 ct3 [(.int .i64 (IntKind.wrap .i64 (s3 + 1)))]
 ) (
 C.ld .agg 8 (Addr.mk b2 0 none) fun v17 =>
 C.st 8 (Addr.mk b4 0 none) (.agg v17) <|
 C.ld .agg 8 (Addr.mk b4 0 none) fun z11 =>
 C.ret (.agg z11)
 )
theorem impl_mixed_eq (C : Comb) (x0 : Array Value) (x1 : Sl) : fT C Tryz.prog ⟨[(2, [(9, (.int .i64))])], [], [], []⟩ n_impl_mixed [(.agg x0), (.slice x1.a x1.n x1.c)] = impl_mixed C x0 x1 := by kernel_rfl
theorem impl_mixed_calls {R : Value → World → Prop} {w : World} (x0 : Array Value) (x1 : Sl) (h : (impl_mixed (real Tryz.prog R) x0 x1 : World → Prop) w) :
    Calls Tryz.prog n_impl_mixed [(.agg x0), (.slice x1.a x1.n x1.c)].toArray w fun e w' => ∃ v, e = .returned v ∧ R v w' := fT_sound mixed ⟨[(2, [(9, (.int .i64))])], [], [], []⟩ (by rw [impl_mixed_eq]; exact h)

def impl_StartState (C : Comb) (x0 : Int) : C.St :=
 C.new ty_arr8_uint32 (.agg (Array.replicate 8 (.int .u32 0))) fun b2 =>
 C.new ty_arr8_uint32 (.agg (Array.replicate 8 (.int .u32 0))) fun b3 =>
 C.st 8 (Addr.mk b3 0 none) (.agg (Array.replicate 8 (.int .u32 0))) <|
 C.loop (TL [(.int .i64)]) (embL [(.int .i64)]) [(.int .i64 0)] fun s3 ct3 => C.any fun _ =>
 cond (decide (s3 < 8)) (
 C.ix (some (Addr.mk b3 0 none)) 8 1 s3 fun p17 =>
 C.st 1 p17 (.int .u32 (IntKind.wrap .u32 ((IntKind.wrap .u32 (16777619 * (IntKind.wrap .u32 ((IntKind.wrap .i64 (s3 + 1)))))) + (IntKind.wrap .u32 (x0))))) <|
 ct3 [(.int .i64 (IntKind.wrap .i64 (s3 + 1)))]
 ) (
 C.ld .agg 8 (Addr.mk b3 0 none) fun v19 =>
 C.st 8 (Addr.mk b2 0 none) (.agg v19) <|
 C.ld .agg 8 (Addr.mk b2 0 none) fun z6 =>
 C.ret (.agg z6)
 )
theorem impl_StartState_eq (C : Comb) (x0 : Int) : fT C Tryz.prog ⟨[(3, [(6, (.int .i64))])], [], [], []⟩ n_impl_StartState [(.int .u8 x0)] = impl_StartState C x0 := by kernel_rfl
theorem impl_StartState_calls {R : Value → World → Prop} {w : World} (x0 : Int) (h : (impl_StartState (real Tryz.prog R) x0 : World → Prop) w) :
    Calls Tryz.prog n_impl_StartState [(.int .u8 x0)].toArray w fun e w' => ∃ v, e = .returned v ∧ R v w' := fT_sound mixed ⟨[(3, [(6, (.int .i64))])], [], [], []⟩ (by rw [impl_StartState_eq]; exact h)

def cmp_Compare_byte (C : Comb) (x0 : Int) (x1 : Int) : C.St :=
 C.call n_cmp_isNaN_byte [(.int .u8 x0)] [.bool] fun r8 =>
 C.call n_cmp_isNaN_byte [(.int .u8 x1)] [.bool] fun r10 =>
 cond r8 (
 cond r10 (
 C.ret (.int .i64 0)
 ) (
 C.ret (.int .i64 (-1))
 )
 ) (
 cond r10 (
 C.ret (.int .i64 1)
 ) (
 cond (decide (x0 < x1)) (
 C.ret (.int .i64 (-1))
 ) (
 cond (decide (x0 > x1)) (
 C.ret (.int .i64 1)
 ) (
 C.ret (.int .i64 0)
 )
 )
 )
 )
theorem cmp_Compare_byte_eq (C : Comb) (x0 : Int) (x1 : Int) : fT C Tryz.prog ⟨[], [], [], []⟩ n_cmp_Compare_byte [(.int .u8 x0), (.int .u8 x1)] = cmp_Compare_byte C x0 x1 := by kernel_rfl
theorem cmp_Compare_byte_calls {R : Value → World → Prop} {w : World} (x0 : Int) (x1 : Int) (h : (cmp_Compare_byte (real Tryz.prog R) x0 x1 : World → Prop) w) :
    Calls Tryz.prog n_cmp_Compare_byte [(.int .u8 x0), (.int .u8 x1)].toArray w fun e w' => ∃ v, e = .returned v ∧ R v w' := fT_sound mixed ⟨[], [], [], []⟩ (by rw [cmp_Compare_byte_eq]; exact h)

def spec_l01Padded (C : Comb) (x0 : Sl) (x1 : Int) : C.St :=
 C.sem (Instr.buildSlice ty_sl_uint8 0 #[]) .slice fun y7 =>
 C.sem (Builtin.append_ #[ty_sl_uint8, ty_sl_uint8] ty_sl_uint8 #[(.slice y7.a y7.n y7.c), (.slice x0.a x0.n x0.c)]) .slice fun y9 =>
 C.sem (Instr.buildSlice ty_sl_uint8 1 #[(0, (.int .u8 128))]) .slice fun y10 =>
 C.sem (Builtin.append_ #[ty_sl_uint8, ty_sl_uint8] ty_sl_uint8 #[(.slice y9.a y9.n y9.c), (.slice y10.a y10.n y10.c)]) .slice fun y11 =>
 C.loop (TL [.slice]) (embL [.slice]) [(.slice y11.a y11.n y11.c)] fun s5 ct5 => C.any fun _ =>
 cond ((Int.tmod (s5.n : Int) 32) != 24) (
 C.sem (Instr.buildSlice ty_sl_uint8 1 #[(0, (.int .u8 0))]) .slice fun y17 =>
 C.sem (Builtin.append_ #[ty_sl_uint8, ty_sl_uint8] ty_sl_uint8 #[(.slice s5.a s5.n s5.c), (.slice y17.a y17.n y17.c)]) .slice fun y18 =>
 ct5 [(.slice y18.a y18.n y18.c)]
 ) (
 C.loop (TL [(.int .i64), .slice, (.int .i64)]) (embL [(.int .i64), .slice, (.int .i64)]) [(.int .i64 x1), (.slice s5.a s5.n s5.c), (.int .i64 0)] fun s8 ct8 => C.any fun _ =>
 cond (decide (s8.2.2 < 8)) (
 C.sem (Instr.buildSlice ty_sl_uint8 1 #[(0, (.int .u8 (IntKind.wrap .u8 ((Int.tmod s8.1 256)))))]) .slice fun y27 =>
 C.sem (Builtin.append_ #[ty_sl_uint8, ty_sl_uint8] ty_sl_uint8 #[(.slice s8.2.1.a s8.2.1.n s8.2.1.c), (.slice y27.a y27.n y27.c)]) .slice fun y28 =>
 ct8 [(.int .i64 (IntKind.wrap .i64 (Int.tdiv s8.1 256))), (.slice y28.a y28.n y28.c), (.int .i64 (IntKind.wrap .i64 (s8.2.2 + 1)))]
 ) (
 C.ret (.slice s8.2.1.a s8.2.1.n s8.2.1.c)
 )
 )
theorem spec_l01Padded_eq (C : Comb) (x0 : Sl) (x1 : Int) : fT C Tryz.prog ⟨[(2, [(5, .slice)]), (5, [(1, (.int .i64)), (5, .slice), (6, (.int .i64))])], [], [], []⟩ n_spec_l01Padded [(.slice x0.a x0.n x0.c), (.int .i64 x1)] = spec_l01Padded C x0 x1 := by kernel_rfl
theorem spec_l01Padded_calls {R : Value → World → Prop} {w : World} (x0 : Sl) (x1 : Int) (h : (spec_l01Padded (real Tryz.prog R) x0 x1 : World → Prop) w) :
    Calls Tryz.prog n_spec_l01Padded [(.slice x0.a x0.n x0.c), (.int .i64 x1)].toArray w fun e w' => ∃ v, e = .returned v ∧ R v w' := fT_sound mixed ⟨[(2, [(5, .slice)]), (5, [(1, (.int .i64)), (5, .slice), (6, (.int .i64))])], [], [], []⟩ (by rw [spec_l01Padded_eq]; exact h)

def spec_l01Mix (C : Comb) (x0 : Array Value) (x1 : Array Value) : C.St :=
 C.new ty_arr8_uint32 (.agg x0) fun b2 =>
 C.new ty_arr32_uint8 (.agg x1) fun b3 =>
 C.new ty_arr8_uint32 (.agg (Array.replicate 8 (.int .u32 0))) fun b4 =>
 C.new ty_arr8_uint32 (.agg (Array.replicate 8 (.int .u32 0))) fun b5 =>
 C.st 8 (Addr.mk b5 0 none) (.agg (Array.replicate 8 (.int .u32 0))) <|
 C.loop (TL [(.int .i64)]) (embL [(.int .i64)]) [(.int .i64 0)] fun s5 ct5 => C.any fun _ =>
 cond (decide (s5 < 8)) (
 C.loop (TL [(.int .i64)]) (embL [(.int .i64)]) [(.int .i64 3)] fun s6 ct6 => C.any fun _ =>
 cond (decide (s6 ≥ 0)) (
 C.draw <|
 C.ix (some (Addr.mk b5 0 none)) 8 1 s5 fun p25 =>
 C.ld (.int .u32) 1 p25 fun v26 =>
 C.ix (some (Addr.mk b3 0 none)) 32 1 (IntKind.wrap .i64 ((IntKind.wrap .i64 (4 * s5)) + s6)) fun p32 =>
 C.ld (.int .u8) 1 p32 fun v33 =>
 C.ix (some (Addr.mk b5 0 none)) 8 1 s5 fun p36 =>
 C.st 1 p36 (.int .u32 (bitsI .or .u32 (IntKind.wrap .u32 (v26 * 2 ^ 8)) (IntKind.wrap .u32 (v33)))) <|
 ct6 [(.int .i64 (IntKind.wrap .i64 (s6 - 1)))]
 ) (
 ct5 [(.int .i64 (IntKind.wrap .i64 (s5 + 1)))]
 )
 ) (
 C.ld .agg 8 (Addr.mk b2 0 none) fun v37 =>
 C.new ty_arr8_uint32 (.agg (Array.replicate 8 (.int .u32 0))) fun b8 =>
 C.st 8 (Addr.mk b8 0 none) (.agg v37) <|
 C.loop (TL [(.int .i64)]) (embL [(.int .i64)]) [(.int .i64 0)] fun s14 ct14 => C.any fun _ =>
 cond (decide (s14 < 12)) (
 C.loop (TL [(.int .i64)]) (embL [(.int .i64)]) [(.int .i64 0)] fun s15 ct15 => C.any fun _ =>
 cond (decide (s15 < 8)) (
 C.draw <|
 C.ix (some (Addr.mk b8 0 none)) 8 1 s15 fun p47 =>
 C.ld (.int .u32) 1 p47 fun v48 =>
 C.ix (some (Addr.mk b5 0 none)) 8 1 (Int.tmod (IntKind.wrap .i64 (s15 + (IntKind.wrap .i64 (3 * s14)))) 8) fun p54 =>
 C.ld (.int .u32) 1 p54 fun v55 =>
 C.draw <|
 C.callQ n_spec_l01Turn [(.int .u32 (IntKind.wrap .u32 ((IntKind.wrap .u32 (v48 + v55)) + (IntKind.wrap .u32 (2654435769 * (IntKind.wrap .u32 ((IntKind.wrap .i64 ((IntKind.wrap .i64 ((IntKind.wrap .i64 (8 * s14)) + s15)) + 1))))))))), (.int .u64 7)] [(.int .u32)] fun r66 =>
 C.ix (some (Addr.mk b8 0 none)) 8 1 (Int.tmod (IntKind.wrap .i64 (s15 + 1)) 8) fun p70 =>
 C.ld (.int .u32) 1 p70 fun v71 =>
 C.ix (some (Addr.mk b8 0 none)) 8 1 (Int.tmod (IntKind.wrap .i64 (s15 + 5)) 8) fun p78 =>
 C.ld (.int .u32) 1 p78 fun v79 =>
 C.call n_spec_l01Turn [(.int .u32 v79), (.int .u64 13)] [(.int .u32)] fun r80 =>
 C.ix (some (Addr.mk b8 0 none)) 8 1 s15 fun p82 =>
 C.st 1 p82 (.int .u32 (IntKind.wrap .u32 ((bitsI .xor .u32 r66 v71) + r80))) <|
 ct15 [(.int .i64 (IntKind.wrap .i64 (s15 + 1)))]
 ) (
 ct14 [(.int .i64 (IntKind.wrap .i64 (s14 + 1)))]
 )
 ) (
 C.loop (TL [(.int .i64)]) (embL [(.int .i64)]) [(.int .i64 0)] fun s27 ct27 => C.any fun _ =>
 cond (decide (s27 < 8)) (
 C.draw <|
 C.ix (some (Addr.mk b8 0 none)) 8 1 s27 fun p88 =>
 C.ld (.int .u32) 1 p88 fun v89 =>
 C.ix (some (Addr.mk b2 0 none)) 8 1 s27 fun p91 =>
 C.ld (.int .u32) 1 p91 fun v92 =>
 C.ix (some (Addr.mk b8 0 none)) 8 1 s27 fun p94 =>
 C.st 1 p94 (.int .u32 (bitsI .xor .u32 v89 v92)) <|
 ct27 [(.int .i64 (IntKind.wrap .i64 (s27 + 1)))]
 ) (
 C.ld .agg 8 (Addr.mk b8 0 none) fun v95 =>
 C.st 8 (Addr.mk b4 0 none) (.agg v95) <|
 C.ld .agg 8 (Addr.mk b4 0 none) fun z34 =>
 C.ret (.agg z34)
 )
 )
 )
theorem spec_l01Mix_eq (C : Comb) (x0 : Array Value) (x1 : Array Value) : fT C Tryz.prog ⟨[(3, [(6, (.int .i64))]), (6, [(7, (.int .i64))]), (11, [(9, (.int .i64))]), (14, [(10, (.int .i64))]), (20, [(13, (.int .i64))])], [], [8, 22], []⟩ n_spec_l01Mix [(.agg x0), (.agg x1)] = spec_l01Mix C x0 x1 := by kernel_rfl
theorem spec_l01Mix_calls {R : Value → World → Prop} {w : World} (x0 : Array Value) (x1 : Array Value) (h : (spec_l01Mix (real Tryz.prog R) x0 x1 : World → Prop) w) :
    Calls Tryz.prog n_spec_l01Mix [(.agg x0), (.agg x1)].toArray w fun e w' => ∃ v, e = .returned v ∧ R v w' := fT_sound mixed ⟨[(3, [(6, (.int .i64))]), (6, [(7, (.int .i64))]), (11, [(9, (.int .i64))]), (14, [(10, (.int .i64))]), (20, [(13, (.int .i64))])], [], [8, 22], []⟩ (by rw [spec_l01Mix_eq]; exact h)

def spec_l01Block (C : Comb) (x0 : Sl) (x1 : Int) : C.St :=
 C.new ty_arr32_uint8 (.agg (Array.replicate 32 (.int .u8 0))) fun b4 =>
 C.new ty_arr32_uint8 (.agg (Array.replicate 32 (.int .u8 0))) fun b5 =>
 C.st 32 (Addr.mk b5 0 none) (.agg (Array.replicate 32 (.int .u8 0))) <|
 C.loop (TL [(.int .i64)]) (embL [(.int .i64)]) [(.int .i64 0)] fun s3 ct3 => C.any fun _ =>
 cond (decide (s3 < 32)) (
 C.ix x0.a x0.n 1 (IntKind.wrap .i64 (x1 + s3)) fun p17 =>
 C.ld (.int .u8) 1 p17 fun v18 =>
 C.ix (some (Addr.mk b5 0 none)) 32 1 s3 fun p19 =>
 C.st 1 p19 (.int .u8 v18) <|
 ct3 [(.int .i64 (IntKind.wrap .i64 (s3 + 1)))]
 ) (
 C.ld .agg 32 (Addr.mk b5 0 none) fun v20 =>
 C.st 32 (Addr.mk b4 0 none) (.agg v20) <|
 C.ld .agg 32 (Addr.mk b4 0 none) fun z8 =>
 C.ret (.agg z8)
 )
theorem spec_l01Block_eq (C : Comb) (x0 : Sl) (x1 : Int) : fT C Tryz.prog ⟨[(3, [(6, (.int .i64))])], [], [], []⟩ n_spec_l01Block [(.slice x0.a x0.n x0.c), (.int .i64 x1)] = spec_l01Block C x0 x1 := by kernel_rfl
theorem spec_l01Block_calls {R : Value → World → Prop} {w : World} (x0 : Sl) (x1 : Int) (h : (spec_l01Block (real Tryz.prog R) x0 x1 : World → Prop) w) :
    Calls Tryz.prog n_spec_l01Block [(.slice x0.a x0.n x0.c), (.int .i64 x1)].toArray w fun e w' => ∃ v, e = .returned v ∧ R v w' := fT_sound mixed ⟨[(3, [(6, (.int .i64))])], [], [], []⟩ (by rw [spec_l01Block_eq]; exact h)

def spec_l04Names (C : Comb)  : C.St :=
 C.sem (Instr.buildSlice ty_sl_string 13 #[(0, (.string (⟨#[97]⟩ : ByteArray))), (1, (.string (⟨#[98]⟩ : ByteArray))), (2, (.string (⟨#[99]⟩ : ByteArray))), (3, (.string (⟨#[100]⟩ : ByteArray))), (4, (.string (⟨#[101]⟩ : ByteArray))), (5, (.string (⟨#[97, 97]⟩ : ByteArray))), (6, (.string (⟨#[97, 98]⟩ : ByteArray))), (7, (.string (⟨#[98, 97]⟩ : ByteArray))), (8, (.string (⟨#[122]⟩ : ByteArray))), (9, (.string (⟨#[110, 97, 109, 101]⟩ : ByteArray))), (10, (.string (⟨#[120, 46, 121]⟩ : ByteArray))), (11, (.string (⟨#[120, 46, 122]⟩ : ByteArray))), (12, (.string (⟨#[120]⟩ : ByteArray)))]) .slice fun y1 =>
 C.ret (.slice y1.a y1.n y1.c)
theorem spec_l04Names_eq (C : Comb)  : fT C Tryz.prog ⟨[], [], [], []⟩ n_spec_l04Names [] = spec_l04Names C  := by kernel_rfl
theorem spec_l04Names_calls {R : Value → World → Prop} {w : World}  (h : (spec_l04Names (real Tryz.prog R)  : World → Prop) w) :
    Calls Tryz.prog n_spec_l04Names [].toArray w fun e w' => ∃ v, e = .returned v ∧ R v w' := fT_sound mixed ⟨[], [], [], []⟩ (by rw [spec_l04Names_eq]; exact h)

def slices_Grow_sl_byte_byte (C : Comb) (x0 : Sl) (x1 : Int) : C.St :=
 C.join (TL []) (embL []) (fun s2 => C.any fun _ =>
 cond (decide ((IntKind.wrap .i64 (x1 - (IntKind.wrap .i64 ((x0.c : Int) - (x0.n : Int))))) > 0)) (
 C.sl x0.a x0.n x0.c 1 none (some (x0.c : Int)) none fun y20 =>
 C.sem (Builtin.append_ #[ty_sl_uint8, ty_int] ty_sl_uint8 #[(.slice y20.a y20.n y20.c), (.int .i64 (IntKind.wrap .i64 (x1 - (IntKind.wrap .i64 ((x0.c : Int) - (x0.n : Int))))))]) .slice fun y22 =>
 C.sl y22.a y22.n y22.c 1 none (some (x0.n : Int)) none fun y25 =>
 C.ret (.slice y25.a y25.n y25.c)
 ) (
 C.ret (.slice x0.a x0.n x0.c)
 )
 ) fun jt =>
 cond (decide (x1 < 0)) (
 C.pur (Instr.makeInterface ty_string (.string (⟨#[99, 97, 110, 110, 111, 116, 32, 98, 101, 32, 110, 101, 103, 97, 116, 105, 118, 101]⟩ : ByteArray))) .val fun y7 =>
 C.fail
 ) (
 jt []
 )
theorem slices_Grow_sl_byte_byte_eq (C : Comb) (x0 : Sl) (x1 : Int) : fT C Tryz.prog ⟨[], [(18, [])], [], []⟩ n_slices_Grow_sl_byte_byte [(.slice x0.a x0.n x0.c), (.int .i64 x1)] = slices_Grow_sl_byte_byte C x0 x1 := by kernel_rfl
theorem slices_Grow_sl_byte_byte_calls {R : Value → World → Prop} {w : World} (x0 : Sl) (x1 : Int) (h : (slices_Grow_sl_byte_byte (real Tryz.prog R) x0 x1 : World → Prop) w) :
    Calls Tryz.prog n_slices_Grow_sl_byte_byte [(.slice x0.a x0.n x0.c), (.int .i64 x1)].toArray w fun e w' => ∃ v, e = .returned v ∧ R v w' := fT_sound mixed ⟨[], [(18, [])], [], []⟩ (by rw [slices_Grow_sl_byte_byte_eq]; exact h)

def spec_l04Name (C : Comb) (x0 : ByteArray) : C.St :=
 C.call n_spec_l00In [(.int .i64 (x0.size : Int)), (.int .i64 1), (.int .i64 24)] [.bool] fun r5 =>
 C.ret (.bool r5)
theorem spec_l04Name_eq (C : Comb) (x0 : ByteArray) : fT C Tryz.prog ⟨[], [], [], []⟩ n_spec_l04Name [(.string x0)] = spec_l04Name C x0 := by kernel_rfl
theorem spec_l04Name_calls {R : Value → World → Prop} {w : World} (x0 : ByteArray) (h : (spec_l04Name (real Tryz.prog R) x0 : World → Prop) w) :
    Calls Tryz.prog n_spec_l04Name [(.string x0)].toArray w fun e w' => ∃ v, e = .returned v ∧ R v w' := fT_sound mixed ⟨[], [], [], []⟩ (by rw [spec_l04Name_eq]; exact h)

def spec_l04Priority (C : Comb) (x0 : ByteArray) : C.St :=
 C.new ty_impl_Key (.agg (Array.replicate 32 (.int .u8 0))) fun b2 =>
 C.sem (convert ty_string ty_sl_uint8 (.string x0)) .slice fun y4 =>
 C.call n_spec_l01Hash [(.int .u8 4), (.slice y4.a y4.n y4.c)] [.agg] fun r5 =>
 C.st 32 (Addr.mk b2 0 none) (.agg r5) <|
 C.ld .agg 32 (Addr.mk b2 0 none) fun z4 =>
 C.ret (.agg z4)
theorem spec_l04Priority_eq (C : Comb) (x0 : ByteArray) : fT C Tryz.prog ⟨[], [], [], []⟩ n_spec_l04Priority [(.string x0)] = spec_l04Priority C x0 := by kernel_rfl
theorem spec_l04Priority_calls {R : Value → World → Prop} {w : World} (x0 : ByteArray) (h : (spec_l04Priority (real Tryz.prog R) x0 : World → Prop) w) :
    Calls Tryz.prog n_spec_l04Priority [(.string x0)].toArray w fun e w' => ∃ v, e = .returned v ∧ R v w' := fT_sound mixed ⟨[], [], [], []⟩ (by rw [spec_l04Priority_eq]; exact h)

def impl_delta_1 (C : Comb) (x0 : Addr) (x1 : Addr) : C.St :=
 C.loop (TL []) (embL []) [] fun s1 ct1 => C.any fun _ =>
 C.ld .slice 1 x0 fun v3 =>
 cond (decide ((v3.n : Int) > 0)) (
 C.ld .slice 1 x0 fun v6 =>
 C.sem (Builtin.min_ #[ty_int, ty_int] ty_int #[(.int .i64 255), (.int .i64 (v6.n : Int))]) (.int .i64) fun y8 =>
 C.draw <|
 C.ld .slice 1 x1 fun v9 =>
 C.ld .slice 1 x0 fun v14 =>
 C.sl v14.a v14.n v14.c 1 none (some y8) none fun y16 =>
 C.sem (Instr.buildSlice ty_sl_uint8 2 #[(0, (.int .u8 0)), (1, (.int .u8 (IntKind.wrap .u8 (y8))))]) .slice fun y12 =>
 C.chk [⟨5, 1, x0, .slice, v14⟩, ⟨0, 1, x1, .slice, v9⟩] <|
 C.sem (Builtin.append_ #[ty_sl_uint8, ty_sl_uint8] ty_sl_uint8 #[(.slice v9.a v9.n v9.c), (.slice y12.a y12.n y12.c)]) .slice fun y13 =>
 C.chk [⟨5, 1, x0, .slice, v14⟩] <|
 C.sem (Builtin.append_ #[ty_sl_uint8, ty_sl_uint8] ty_sl_uint8 #[(.slice y13.a y13.n y13.c), (.slice y16.a y16.n y16.c)]) .slice fun y17 =>
 C.chk [⟨5, 1, x0, .slice, v14⟩] <|
 C.st 1 x1 (.slice y17.a y17.n y17.c) <|
 C.ld .slice 1 x0 fun v18 =>
 C.sl v18.a v18.n v18.c 1 (some y8) none none fun y20 =>
 C.st 1 x0 (.slice y20.a y20.n y20.c) <|
 ct1 []
 ) (
 C.ret (.tuple #[])
 )
theorem impl_delta_1_eq (C : Comb) (x0 : Addr) (x1 : Addr) : fT C Tryz.prog ⟨[(0, [])], [], [2], []⟩ n_impl_delta_1 [(.pointer (some x0)), (.pointer (some x1))] = impl_delta_1 C x0 x1 := by kernel_rfl
theorem impl_delta_1_calls {R : Value → World → Prop} {w : World} (x0 : Addr) (x1 : Addr) (h : (impl_delta_1 (real Tryz.prog R) x0 x1 : World → Prop) w) :
    Calls Tryz.prog n_impl_delta_1 [(.pointer (some x0)), (.pointer (some x1))].toArray w fun e w' => ∃ v, e = .returned v ∧ R v w' := fT_sound mixed ⟨[(0, [])], [], [2], []⟩ (by rw [impl_delta_1_eq]; exact h)

def impl_MixBlock (C : Comb) (x0 : Array Value) (x1 : Array Value) : C.St :=
 C.new ty_arr8_uint32 (.agg x0) fun b2 =>
 C.new ty_arr32_uint8 (.agg x1) fun b3 =>
 C.new ty_arr8_uint32 (.agg (Array.replicate 8 (.int .u32 0))) fun b4 =>
 C.new ty_arr8_uint32 (.agg (Array.replicate 8 (.int .u32 0))) fun b5 =>
 C.st 8 (Addr.mk b5 0 none) (.agg (Array.replicate 8 (.int .u32 0))) <|
 C.loop (TL [(.int .i64)]) (embL [(.int .i64)]) [(.int .i64 0)] fun s5 ct5 => C.any fun _ =>
 cond (decide (s5 < 8)) (
 C.sl (some (Addr.mk b3 0 none)) 32 32 1 (some (IntKind.wrap .i64 (4 * s5))) (some (IntKind.wrap .i64 ((IntKind.wrap .i64 (4 * s5)) + 4))) none fun y23 =>
 C.call n_impl_littleNumber [(.slice y23.a y23.n y23.c)] [(.int .u64)] fun r24 =>
 C.ix (some (Addr.mk b5 0 none)) 8 1 s5 fun p26 =>
 C.st 1 p26 (.int .u32 (IntKind.wrap .u32 (r24))) <|
 ct5 [(.int .i64 (IntKind.wrap .i64 (s5 + 1)))]
 ) (
 C.ld .agg 8 (Addr.mk b2 0 none) fun v28 =>
 C.new ty_arr8_uint32 (.agg (Array.replicate 8 (.int .u32 0))) fun b7 =>
 C.st 8 (Addr.mk b7 0 none) (.agg v28) <|
 C.loop (TL [(.int .i64)]) (embL [(.int .i64)]) [(.int .i64 0)] fun s11 ct11 => C.any fun _ =>
 cond (decide (s11 < 12)) (
 C.loop (TL [(.int .i64)]) (embL [(.int .i64)]) [(.int .i64 0)] fun s12 ct12 => C.any fun _ =>
 cond (decide (s12 < 8)) (
 C.draw <|
 C.ix (some (Addr.mk b7 0 none)) 8 1 s12 fun p36 =>
 C.ld (.int .u32) 1 p36 fun v37 =>
 C.ix (some (Addr.mk b5 0 none)) 8 1 (Int.tmod (IntKind.wrap .i64 (s12 + (IntKind.wrap .i64 (3 * s11)))) 8) fun p43 =>
 C.ld (.int .u32) 1 p43 fun v44 =>
 C.draw <|
 C.callQ n_math_bits_RotateLeft32 [(.int .u32 (IntKind.wrap .u32 ((IntKind.wrap .u32 (v37 + v44)) + (IntKind.wrap .u32 (2654435769 * (IntKind.wrap .u32 ((IntKind.wrap .i64 ((IntKind.wrap .i64 ((IntKind.wrap .i64 (8 * s11)) + s12)) + 1))))))))), (.int .i64 7)] [(.int .u32)] fun r55 =>
 C.ix (some (Addr.mk b7 0 none)) 8 1 (Int.tmod (IntKind.wrap .i64 (s12 + 1)) 8) fun p59 =>
 C.ld (.int .u32) 1 p59 fun v60 =>
 C.ix (some (Addr.mk b7 0 none)) 8 1 (Int.tmod (IntKind.wrap .i64 (s12 + 5)) 8) fun p67 =>
 C.ld (.int .u32) 1 p67 fun v68 =>
 C.call n_math_bits_RotateLeft32 [(.int .u32 v68), (.int .i64 13)] [(.int .u32)] fun r69 =>
 C.ix (some (Addr.mk b7 0 none)) 8 1 s12 fun p71 =>
 C.st 1 p71 (.int .u32 (IntKind.wrap .u32 ((bitsI .xor .u32 r55 v60) + r69))) <|
 ct12 [(.int .i64 (IntKind.wrap .i64 (s12 + 1)))]
 ) (
 ct11 [(.int .i64 (IntKind.wrap .i64 (s11 + 1)))]
 )
 ) (
 C.loop (TL [(.int .i64)]) (embL [(.int .i64)]) [(.int .i64 0)] fun s24 ct24 => C.any fun _ =>
 cond (decide (s24 < 8)) (
 C.draw <|
 C.ix (some (Addr.mk b7 0 none)) 8 1 s24 fun p78 =>
 C.ld (.int .u32) 1 p78 fun v79 =>
 C.ix (some (Addr.mk b2 0 none)) 8 1 s24 fun p81 =>
 C.ld (.int .u32) 1 p81 fun v82 =>
 C.ix (some (Addr.mk b7 0 none)) 8 1 s24 fun p84 =>
 C.st 1 p84 (.int .u32 (bitsI .xor .u32 v79 v82)) <|
 ct24 [(.int .i64 (IntKind.wrap .i64 (s24 + 1)))]
 ) (
 C.ld .agg 8 (Addr.mk b7 0 none) fun v86 =>
 C.st 8 (Addr.mk b4 0 none) (.agg v86) <|
 C.ld .agg 8 (Addr.mk b4 0 none) fun z31 =>
 C.ret (.agg z31)
 )
 )
 )
theorem impl_MixBlock_eq (C : Comb) (x0 : Array Value) (x1 : Array Value) : fT C Tryz.prog ⟨[(3, [(14, (.int .i64))]), (9, [(29, (.int .i64))]), (12, [(32, (.int .i64))]), (20, [(74, (.int .i64))])], [], [22], []⟩ n_impl_MixBlock [(.agg x0), (.agg x1)] = impl_MixBlock C x0 x1 := by kernel_rfl
theorem impl_MixBlock_calls {R : Value → World → Prop} {w : World} (x0 : Array Value) (x1 : Array Value) (h : (impl_MixBlock (real Tryz.prog R) x0 x1 : World → Prop) w) :
    Calls Tryz.prog n_impl_MixBlock [(.agg x0), (.agg x1)].toArray w fun e w' => ∃ v, e = .returned v ∧ R v w' := fT_sound mixed ⟨[(3, [(14, (.int .i64))]), (9, [(29, (.int .i64))]), (12, [(32, (.int .i64))]), (20, [(74, (.int .i64))])], [], [22], []⟩ (by rw [impl_MixBlock_eq]; exact h)

def cmp_isNaN_byte (C : Comb) (x0 : Int) : C.St :=
 C.ret (.bool (x0 != x0))
theorem cmp_isNaN_byte_eq (C : Comb) (x0 : Int) : fT C Tryz.prog ⟨[], [], [], []⟩ n_cmp_isNaN_byte [(.int .u8 x0)] = cmp_isNaN_byte C x0 := by kernel_rfl
theorem cmp_isNaN_byte_calls {R : Value → World → Prop} {w : World} (x0 : Int) (h : (cmp_isNaN_byte (real Tryz.prog R) x0 : World → Prop) w) :
    Calls Tryz.prog n_cmp_isNaN_byte [(.int .u8 x0)].toArray w fun e w' => ∃ v, e = .returned v ∧ R v w' := fT_sound mixed ⟨[], [], [], []⟩ (by rw [cmp_isNaN_byte_eq]; exact h)

def spec_l01Turn (C : Comb) (x0 : Int) (x1 : Int) : C.St :=
 C.pur (eqB .shl ty_uint32 (.tmp 5) (.tmp 6) (.int .u32 x0) (.int .u64 x1)) (.int .u32) fun y7 =>
 C.pur (eqB .shr ty_uint32 (.tmp 8) (.tmp 10) (.int .u32 x0) (.int .u64 (IntKind.wrap .u64 (32 - x1)))) (.int .u32) fun y11 =>
 C.ret (.int .u32 (bitsI .or .u32 y7 y11))
theorem spec_l01Turn_eq (C : Comb) (x0 : Int) (x1 : Int) : fT C Tryz.prog ⟨[], [], [], []⟩ n_spec_l01Turn [(.int .u32 x0), (.int .u64 x1)] = spec_l01Turn C x0 x1 := by kernel_rfl
theorem spec_l01Turn_calls {R : Value → World → Prop} {w : World} (x0 : Int) (x1 : Int) (h : (spec_l01Turn (real Tryz.prog R) x0 x1 : World → Prop) w) :
    Calls Tryz.prog n_spec_l01Turn [(.int .u32 x0), (.int .u64 x1)].toArray w fun e w' => ∃ v, e = .returned v ∧ R v w' := fT_sound mixed ⟨[], [], [], []⟩ (by rw [spec_l01Turn_eq]; exact h)

def math_bits_RotateLeft32 (C : Comb) (x0 : Int) (x1 : Int) : C.St :=
 C.pur (eqB .shl ty_uint32 (.tmp 9) (.tmp 10) (.int .u32 x0) (.int .u64 (bitsI .and .u64 (IntKind.wrap .u64 (x1)) 31))) (.int .u32) fun y11 =>
 C.pur (eqB .shr ty_uint32 (.tmp 12) (.tmp 14) (.int .u32 x0) (.int .u64 (IntKind.wrap .u64 (32 - (bitsI .and .u64 (IntKind.wrap .u64 (x1)) 31))))) (.int .u32) fun y15 =>
 C.ret (.int .u32 (bitsI .or .u32 y11 y15))
theorem math_bits_RotateLeft32_eq (C : Comb) (x0 : Int) (x1 : Int) : fT C Tryz.prog ⟨[], [], [], []⟩ n_math_bits_RotateLeft32 [(.int .u32 x0), (.int .i64 x1)] = math_bits_RotateLeft32 C x0 x1 := by kernel_rfl
theorem math_bits_RotateLeft32_calls {R : Value → World → Prop} {w : World} (x0 : Int) (x1 : Int) (h : (math_bits_RotateLeft32 (real Tryz.prog R) x0 x1 : World → Prop) w) :
    Calls Tryz.prog n_math_bits_RotateLeft32 [(.int .u32 x0), (.int .i64 x1)].toArray w fun e w' => ∃ v, e = .returned v ∧ R v w' := fT_sound mixed ⟨[], [], [], []⟩ (by rw [math_bits_RotateLeft32_eq]; exact h)

end Go.Proofs.YtkifkdkjljcclaaGreat
