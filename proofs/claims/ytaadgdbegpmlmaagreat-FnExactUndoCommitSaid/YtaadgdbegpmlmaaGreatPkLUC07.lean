/- Printed by a program of this claim's author: each Go function as a Lean function over abstract combinators, and the equation that says that T makes it of the loaded code. -/
import Derived.Test.YtaadgdbegpmlmaaGreatProg
import Derived.Test.YtaadgdbegpmlmaaGreatPkLUC06
namespace Go.Proofs.YtaadgdbegpmlmaaGreat
open Go.Sx
def impl_ValidCommit (C : Comb) (x0 : Array Value) : C.St :=
 C.new ty_impl_Commit (.agg x0) fun b1 =>
 C.loop (TL [(.int .i64)]) (embL [(.int .i64)]) [(.int .i64 1)] fun s2 ct2 => C.any fun _ =>
 C.ld .slice 1 ((Addr.mk b1 0 none).add 32) fun v6 =>
 cond (decide (s2 < (v6.n : Int))) (
 C.draw <|
 C.ld .slice 1 ((Addr.mk b1 0 none).add 32) fun v12 =>
 C.ix v12.a v12.n 32 (IntKind.wrap .i64 (s2 - 1)) fun p15 =>
 C.ld .agg 32 p15 fun v16 =>
 C.ld .slice 1 ((Addr.mk b1 0 none).add 32) fun v18 =>
 C.ix v18.a v18.n 32 s2 fun p20 =>
 C.ld .agg 32 p20 fun v21 =>
 C.call n_impl_compareKeys [(.agg v16), (.agg v21)] [(.int .i64)] fun r22 =>
 C.chk [⟨7, 1, ((Addr.mk b1 0 none).add 32), .slice, v18⟩, ⟨1, 1, ((Addr.mk b1 0 none).add 32), .slice, v12⟩] <|
 cond (decide (r22 ≥ 0)) (
 C.ret (.bool false)
 ) (
 ct2 [(.int .i64 (IntKind.wrap .i64 (s2 + 1)))]
 )
 ) (
 C.ld .slice 1 ((Addr.mk b1 0 none).add 32) fun v25 =>
 cond (decide ((v25.n : Int) ≤ 3)) (
 C.ld (.int .i64) 1 ((Addr.mk b1 0 none).add 33) fun v30 =>
 C.call n_impl_within [(.int .i64 v30), (.int .i64 0), (.int .i64 40)] [.bool] fun r31 =>
 cond r31 (
 C.ld .str 1 ((Addr.mk b1 0 none).add 34) fun v35 =>
 C.ret (.bool (decide ((v35.size : Int) ≤ 64)))
 ) (
 C.ret (.bool false)
 )
 ) (
 C.ret (.bool false)
 )
 )
theorem impl_ValidCommit_eq (C : Comb) (x0 : Array Value) : fT C Tryz.prog ⟨[(2, [(3, (.int .i64))])], [], [4], []⟩ n_impl_ValidCommit [(.agg x0)] = impl_ValidCommit C x0 := by kernel_rfl
theorem impl_ValidCommit_calls {R : Value → World → Prop} {w : World} (x0 : Array Value) (h : (impl_ValidCommit (real Tryz.prog R) x0 : World → Prop) w) :
    Calls Tryz.prog n_impl_ValidCommit [(.agg x0)].toArray w fun e w' => ∃ v, e = .returned v ∧ R v w' := fT_sound mixed ⟨[(2, [(3, (.int .i64))])], [], [4], []⟩ (by rw [impl_ValidCommit_eq]; exact h)

def laws_eqKeyS (C : Comb) (x0 : Sl) (x1 : Sl) : C.St :=
 cond ((x0.n : Int) != (x1.n : Int)) (
 C.ret (.bool false)
 ) (
 C.loop (TL [(.int .i64)]) (embL [(.int .i64)]) [(.int .i64 0)] fun s1 ct1 => C.any fun _ =>
 cond (decide (s1 < (x0.n : Int))) (
 C.draw <|
 C.ix x0.a x0.n 32 s1 fun p19 =>
 C.ld .agg 32 p19 fun v20 =>
 C.ix x1.a x1.n 32 s1 fun p23 =>
 C.ld .agg 32 p23 fun v24 =>
 C.call n_laws_eqKey [(.agg v20), (.agg v24)] [.bool] fun r25 =>
 cond (!r25) (
 C.ret (.bool false)
 ) (
 ct1 [(.int .i64 (IntKind.wrap .i64 (s1 + 1)))]
 )
 ) (
 C.ret (.bool true)
 )
 )
theorem laws_eqKeyS_eq (C : Comb) (x0 : Sl) (x1 : Sl) : fT C Tryz.prog ⟨[(4, [(5, (.int .i64))])], [], [6], []⟩ n_laws_eqKeyS [(.slice x0.a x0.n x0.c), (.slice x1.a x1.n x1.c)] = laws_eqKeyS C x0 x1 := by kernel_rfl
theorem laws_eqKeyS_calls {R : Value → World → Prop} {w : World} (x0 : Sl) (x1 : Sl) (h : (laws_eqKeyS (real Tryz.prog R) x0 x1 : World → Prop) w) :
    Calls Tryz.prog n_laws_eqKeyS [(.slice x0.a x0.n x0.c), (.slice x1.a x1.n x1.c)].toArray w fun e w' => ∃ v, e = .returned v ∧ R v w' := fT_sound mixed ⟨[(4, [(5, (.int .i64))])], [], [6], []⟩ (by rw [laws_eqKeyS_eq]; exact h)

def laws_markKeyS (C : Comb) (x0 : Sl) (x1 : Int) : C.St :=
 C.loop (TL [(.int .i64), (.int .i64)]) (embL [(.int .i64), (.int .i64)]) [(.int .i64 x1), (.int .i64 0)] fun s1 ct1 => C.any fun _ =>
 cond (decide (s1.2 < (x0.n : Int))) (
 C.loop (TL [(.int .i64), (.int .i64)]) (embL [(.int .i64), (.int .i64)]) [(.int .i64 s1.1), (.int .i64 0)] fun s2 ct2 => C.any fun _ =>
 cond (decide (s2.2 < 32)) (
 C.ix x0.a x0.n 32 s1.2 fun p22 =>
 C.ix (some p22) 32 1 s2.2 fun p23 =>
 C.st 1 p23 (.int .u8 (IntKind.wrap .u8 (s2.1))) <|
 ct2 [(.int .i64 (IntKind.wrap .i64 (s2.1 + 1))), (.int .i64 (IntKind.wrap .i64 (s2.2 + 1)))]
 ) (
 ct1 [(.int .i64 s2.1), (.int .i64 (IntKind.wrap .i64 (s1.2 + 1)))]
 )
 ) (
 C.ret (.int .i64 s1.1)
 )
theorem laws_markKeyS_eq (C : Comb) (x0 : Sl) (x1 : Int) : fT C Tryz.prog ⟨[(2, [(1, (.int .i64)), (5, (.int .i64))]), (5, [(1, (.int .i64)), (6, (.int .i64))])], [], [], []⟩ n_laws_markKeyS [(.slice x0.a x0.n x0.c), (.int .i64 x1)] = laws_markKeyS C x0 x1 := by kernel_rfl
theorem laws_markKeyS_calls {R : Value → World → Prop} {w : World} (x0 : Sl) (x1 : Int) (h : (laws_markKeyS (real Tryz.prog R) x0 x1 : World → Prop) w) :
    Calls Tryz.prog n_laws_markKeyS [(.slice x0.a x0.n x0.c), (.int .i64 x1)].toArray w fun e w' => ∃ v, e = .returned v ∧ R v w' := fT_sound mixed ⟨[(2, [(1, (.int .i64)), (5, (.int .i64))]), (5, [(1, (.int .i64)), (6, (.int .i64))])], [], [], []⟩ (by rw [laws_markKeyS_eq]; exact h)

def laws_heldKeyS (C : Comb) (x0 : Sl) (x1 : Int) : C.St :=
 C.loop (TL [(.int .i64), (.int .i64)]) (embL [(.int .i64), (.int .i64)]) [(.int .i64 x1), (.int .i64 0)] fun s1 ct1 => C.any fun _ =>
 cond (decide (s1.2 < (x0.n : Int))) (
 C.loop (TL [(.int .i64), (.int .i64)]) (embL [(.int .i64), (.int .i64)]) [(.int .i64 s1.1), (.int .i64 0)] fun s2 ct2 => C.any fun _ =>
 cond (decide (s2.2 < 32)) (
 C.ix x0.a x0.n 32 s1.2 fun p20 =>
 C.ix (some p20) 32 1 s2.2 fun p21 =>
 C.ld (.int .u8) 1 p21 fun v22 =>
 cond (v22 != (IntKind.wrap .u8 (s2.1))) (
 C.ret (.int .i64 (-1))
 ) (
 ct2 [(.int .i64 (IntKind.wrap .i64 (s2.1 + 1))), (.int .i64 (IntKind.wrap .i64 (s2.2 + 1)))]
 )
 ) (
 ct1 [(.int .i64 s2.1), (.int .i64 (IntKind.wrap .i64 (s1.2 + 1)))]
 )
 ) (
 C.ret (.int .i64 s1.1)
 )
theorem laws_heldKeyS_eq (C : Comb) (x0 : Sl) (x1 : Int) : fT C Tryz.prog ⟨[(2, [(1, (.int .i64)), (5, (.int .i64))]), (5, [(1, (.int .i64)), (6, (.int .i64))])], [], [], []⟩ n_laws_heldKeyS [(.slice x0.a x0.n x0.c), (.int .i64 x1)] = laws_heldKeyS C x0 x1 := by kernel_rfl
theorem laws_heldKeyS_calls {R : Value → World → Prop} {w : World} (x0 : Sl) (x1 : Int) (h : (laws_heldKeyS (real Tryz.prog R) x0 x1 : World → Prop) w) :
    Calls Tryz.prog n_laws_heldKeyS [(.slice x0.a x0.n x0.c), (.int .i64 x1)].toArray w fun e w' => ∃ v, e = .returned v ∧ R v w' := fT_sound mixed ⟨[(2, [(1, (.int .i64)), (5, (.int .i64))]), (5, [(1, (.int .i64)), (6, (.int .i64))])], [], [], []⟩ (by rw [laws_heldKeyS_eq]; exact h)

def laws_szKeyS (C : Comb) (x0 : Sl) (x1 : Int) : C.St :=
 cond (decide ((IntKind.wrap .i64 (x1 - (x0.n : Int))) < 0)) (
 C.ret (.int .i64 (-1))
 ) (
 C.ret (.int .i64 (IntKind.wrap .i64 (x1 - (x0.n : Int))))
 )
theorem laws_szKeyS_eq (C : Comb) (x0 : Sl) (x1 : Int) : fT C Tryz.prog ⟨[], [], [], []⟩ n_laws_szKeyS [(.slice x0.a x0.n x0.c), (.int .i64 x1)] = laws_szKeyS C x0 x1 := by kernel_rfl
theorem laws_szKeyS_calls {R : Value → World → Prop} {w : World} (x0 : Sl) (x1 : Int) (h : (laws_szKeyS (real Tryz.prog R) x0 x1 : World → Prop) w) :
    Calls Tryz.prog n_laws_szKeyS [(.slice x0.a x0.n x0.c), (.int .i64 x1)].toArray w fun e w' => ∃ v, e = .returned v ∧ R v w' := fT_sound mixed ⟨[], [], [], []⟩ (by rw [laws_szKeyS_eq]; exact h)

def laws_szEntryS (C : Comb) (x0 : Sl) (x1 : Int) : C.St :=
 cond (decide ((IntKind.wrap .i64 (x1 - (x0.n : Int))) < 0)) (
 C.ret (.int .i64 (-1))
 ) (
 C.loop (TL [(.int .i64), (.int .i64)]) (embL [(.int .i64), (.int .i64)]) [(.int .i64 (IntKind.wrap .i64 (x1 - (x0.n : Int)))), (.int .i64 0)] fun s1 ct1 => C.any fun _ =>
 cond (decide (s1.2 < (x0.n : Int))) (
 C.ix x0.a x0.n 2 s1.2 fun p20 =>
 C.ld .agg 2 p20 fun v21 =>
 C.call n_laws_szEntry [(.agg v21), (.int .i64 s1.1)] [(.int .i64)] fun r23 =>
 cond (decide (r23 < 0)) (
 C.ret (.int .i64 (-1))
 ) (
 ct1 [(.int .i64 r23), (.int .i64 (IntKind.wrap .i64 (s1.2 + 1)))]
 )
 ) (
 C.ret (.int .i64 s1.1)
 )
 )
theorem laws_szEntryS_eq (C : Comb) (x0 : Sl) (x1 : Int) : fT C Tryz.prog ⟨[(5, [(1, (.int .i64)), (5, (.int .i64))])], [], [], []⟩ n_laws_szEntryS [(.slice x0.a x0.n x0.c), (.int .i64 x1)] = laws_szEntryS C x0 x1 := by kernel_rfl
theorem laws_szEntryS_calls {R : Value → World → Prop} {w : World} (x0 : Sl) (x1 : Int) (h : (laws_szEntryS (real Tryz.prog R) x0 x1 : World → Prop) w) :
    Calls Tryz.prog n_laws_szEntryS [(.slice x0.a x0.n x0.c), (.int .i64 x1)].toArray w fun e w' => ∃ v, e = .returned v ∧ R v w' := fT_sound mixed ⟨[(5, [(1, (.int .i64)), (5, (.int .i64))])], [], [], []⟩ (by rw [laws_szEntryS_eq]; exact h)

def laws_toKeyS (C : Comb) (x0 : Sl) : C.St :=
 C.sem (Instr.makeSlice ty_sl_impl_Key (.int .i64 (x0.n : Int)) (.int .i64 (x0.n : Int))) .slice fun y7 =>
 C.loop (TL [(.int .i64)]) (embL [(.int .i64)]) [(.int .i64 0)] fun s2 ct2 => C.any fun _ =>
 cond (decide (s2 < (x0.n : Int))) (
 C.ix x0.a x0.n 32 s2 fun p18 =>
 C.ld .agg 32 p18 fun v19 =>
 C.call n_laws_toKey [(.agg v19)] [.agg] fun r20 =>
 C.ix y7.a y7.n 32 s2 fun p21 =>
 C.st 32 p21 (.agg r20) <|
 ct2 [(.int .i64 (IntKind.wrap .i64 (s2 + 1)))]
 ) (
 C.ret (.slice y7.a y7.n y7.c)
 )
theorem laws_toKeyS_eq (C : Comb) (x0 : Sl) : fT C Tryz.prog ⟨[(3, [(4, (.int .i64))])], [], [], []⟩ n_laws_toKeyS [(.slice x0.a x0.n x0.c)] = laws_toKeyS C x0 := by kernel_rfl
theorem laws_toKeyS_calls {R : Value → World → Prop} {w : World} (x0 : Sl) (h : (laws_toKeyS (real Tryz.prog R) x0 : World → Prop) w) :
    Calls Tryz.prog n_laws_toKeyS [(.slice x0.a x0.n x0.c)].toArray w fun e w' => ∃ v, e = .returned v ∧ R v w' := fT_sound mixed ⟨[(3, [(4, (.int .i64))])], [], [], []⟩ (by rw [laws_toKeyS_eq]; exact h)

def laws_toEntryS (C : Comb) (x0 : Sl) : C.St :=
 C.sem (Instr.makeSlice ty_sl_impl_Entry (.int .i64 (x0.n : Int)) (.int .i64 (x0.n : Int))) .slice fun y7 =>
 C.loop (TL [(.int .i64)]) (embL [(.int .i64)]) [(.int .i64 0)] fun s2 ct2 => C.any fun _ =>
 cond (decide (s2 < (x0.n : Int))) (
 C.ix x0.a x0.n 2 s2 fun p18 =>
 C.ld .agg 2 p18 fun v19 =>
 C.call n_laws_toEntry [(.agg v19)] [.agg] fun r20 =>
 C.ix y7.a y7.n 2 s2 fun p21 =>
 C.st 2 p21 (.agg r20) <|
 ct2 [(.int .i64 (IntKind.wrap .i64 (s2 + 1)))]
 ) (
 C.ret (.slice y7.a y7.n y7.c)
 )
theorem laws_toEntryS_eq (C : Comb) (x0 : Sl) : fT C Tryz.prog ⟨[(3, [(4, (.int .i64))])], [], [], []⟩ n_laws_toEntryS [(.slice x0.a x0.n x0.c)] = laws_toEntryS C x0 := by kernel_rfl
theorem laws_toEntryS_calls {R : Value → World → Prop} {w : World} (x0 : Sl) (h : (laws_toEntryS (real Tryz.prog R) x0 : World → Prop) w) :
    Calls Tryz.prog n_laws_toEntryS [(.slice x0.a x0.n x0.c)].toArray w fun e w' => ∃ v, e = .returned v ∧ R v w' := fT_sound mixed ⟨[(3, [(4, (.int .i64))])], [], [], []⟩ (by rw [laws_toEntryS_eq]; exact h)

def laws_eqKey (C : Comb) (x0 : Array Value) (x1 : Array Value) : C.St :=
 C.new ty_impl_Key (.agg x0) fun b2 =>
 C.new ty_impl_Key (.agg x1) fun b3 =>
 C.loop (TL [(.int .i64)]) (embL [(.int .i64)]) [(.int .i64 0)] fun s3 ct3 => C.any fun _ =>
 cond (decide (s3 < 32)) (
 C.draw <|
 C.ix (some (Addr.mk b2 0 none)) 32 1 s3 fun p11 =>
 C.ld (.int .u8) 1 p11 fun v12 =>
 C.ix (some (Addr.mk b3 0 none)) 32 1 s3 fun p14 =>
 C.ld (.int .u8) 1 p14 fun v15 =>
 cond (v12 != v15) (
 C.ret (.bool false)
 ) (
 ct3 [(.int .i64 (IntKind.wrap .i64 (s3 + 1)))]
 )
 ) (
 C.ret (.bool true)
 )
theorem laws_eqKey_eq (C : Comb) (x0 : Array Value) (x1 : Array Value) : fT C Tryz.prog ⟨[(2, [(5, (.int .i64))])], [], [], []⟩ n_laws_eqKey [(.agg x0), (.agg x1)] = laws_eqKey C x0 x1 := by kernel_rfl
theorem laws_eqKey_calls {R : Value → World → Prop} {w : World} (x0 : Array Value) (x1 : Array Value) (h : (laws_eqKey (real Tryz.prog R) x0 x1 : World → Prop) w) :
    Calls Tryz.prog n_laws_eqKey [(.agg x0), (.agg x1)].toArray w fun e w' => ∃ v, e = .returned v ∧ R v w' := fT_sound mixed ⟨[(2, [(5, (.int .i64))])], [], [], []⟩ (by rw [laws_eqKey_eq]; exact h)

def laws_eqEntryS (C : Comb) (x0 : Sl) (x1 : Sl) : C.St :=
 cond ((x0.n : Int) != (x1.n : Int)) (
 C.ret (.bool false)
 ) (
 C.loop (TL [(.int .i64)]) (embL [(.int .i64)]) [(.int .i64 0)] fun s1 ct1 => C.any fun _ =>
 cond (decide (s1 < (x0.n : Int))) (
 C.draw <|
 C.ix x0.a x0.n 2 s1 fun p19 =>
 C.ld .agg 2 p19 fun v20 =>
 C.ix x1.a x1.n 2 s1 fun p23 =>
 C.ld .agg 2 p23 fun v24 =>
 C.call n_laws_eqEntry [(.agg v20), (.agg v24)] [.bool] fun r25 =>
 cond (!r25) (
 C.ret (.bool false)
 ) (
 ct1 [(.int .i64 (IntKind.wrap .i64 (s1 + 1)))]
 )
 ) (
 C.ret (.bool true)
 )
 )
theorem laws_eqEntryS_eq (C : Comb) (x0 : Sl) (x1 : Sl) : fT C Tryz.prog ⟨[(4, [(5, (.int .i64))])], [], [6], []⟩ n_laws_eqEntryS [(.slice x0.a x0.n x0.c), (.slice x1.a x1.n x1.c)] = laws_eqEntryS C x0 x1 := by kernel_rfl
theorem laws_eqEntryS_calls {R : Value → World → Prop} {w : World} (x0 : Sl) (x1 : Sl) (h : (laws_eqEntryS (real Tryz.prog R) x0 x1 : World → Prop) w) :
    Calls Tryz.prog n_laws_eqEntryS [(.slice x0.a x0.n x0.c), (.slice x1.a x1.n x1.c)].toArray w fun e w' => ∃ v, e = .returned v ∧ R v w' := fT_sound mixed ⟨[(4, [(5, (.int .i64))])], [], [6], []⟩ (by rw [laws_eqEntryS_eq]; exact h)

def laws_markEntryS (C : Comb) (x0 : Sl) (x1 : Int) : C.St :=
 C.loop (TL [(.int .i64), (.int .i64)]) (embL [(.int .i64), (.int .i64)]) [(.int .i64 x1), (.int .i64 0)] fun s1 ct1 => C.any fun _ =>
 cond (decide (s1.2 < (x0.n : Int))) (
 C.call n_laws_markText [(.int .i64 s1.1)] [.str] fun r15 =>
 C.ix x0.a x0.n 2 s1.2 fun p16 =>
 C.st 1 (p16.add 0) (.string r15) <|
 C.call n_laws_markText [(.int .i64 (IntKind.wrap .i64 (s1.1 + 1)))] [.str] fun r23 =>
 C.ix x0.a x0.n 2 s1.2 fun p24 =>
 C.st 1 (p24.add 1) (.string r23) <|
 ct1 [(.int .i64 (IntKind.wrap .i64 ((IntKind.wrap .i64 (s1.1 + 1)) + 1))), (.int .i64 (IntKind.wrap .i64 (s1.2 + 1)))]
 ) (
 C.ret (.int .i64 s1.1)
 )
theorem laws_markEntryS_eq (C : Comb) (x0 : Sl) (x1 : Int) : fT C Tryz.prog ⟨[(2, [(1, (.int .i64)), (5, (.int .i64))])], [], [], []⟩ n_laws_markEntryS [(.slice x0.a x0.n x0.c), (.int .i64 x1)] = laws_markEntryS C x0 x1 := by kernel_rfl
theorem laws_markEntryS_calls {R : Value → World → Prop} {w : World} (x0 : Sl) (x1 : Int) (h : (laws_markEntryS (real Tryz.prog R) x0 x1 : World → Prop) w) :
    Calls Tryz.prog n_laws_markEntryS [(.slice x0.a x0.n x0.c), (.int .i64 x1)].toArray w fun e w' => ∃ v, e = .returned v ∧ R v w' := fT_sound mixed ⟨[(2, [(1, (.int .i64)), (5, (.int .i64))])], [], [], []⟩ (by rw [laws_markEntryS_eq]; exact h)

def laws_heldBook (C : Comb) (x0 : Array Value) (x1 : Int) : C.St :=
 C.new ty_impl_Book (.agg x0) fun b2 =>
 C.ld .slice 1 ((Addr.mk b2 0 none).add 0) fun v6 =>
 C.call n_laws_heldCommitS [(.slice v6.a v6.n v6.c), (.int .i64 x1)] [(.int .i64)] fun r8 =>
 cond (decide (r8 < 0)) (
 C.ret (.int .i64 (-1))
 ) (
 C.ld .slice 1 ((Addr.mk b2 0 none).add 1) fun v12 =>
 C.call n_laws_heldEntrySS [(.slice v12.a v12.n v12.c), (.int .i64 r8)] [(.int .i64)] fun r14 =>
 cond (decide (r14 < 0)) (
 C.ret (.int .i64 (-1))
 ) (
 C.ret (.int .i64 r14)
 )
 )
theorem laws_heldBook_eq (C : Comb) (x0 : Array Value) (x1 : Int) : fT C Tryz.prog ⟨[], [], [], []⟩ n_laws_heldBook [(.agg x0), (.int .i64 x1)] = laws_heldBook C x0 x1 := by kernel_rfl
theorem laws_heldBook_calls {R : Value → World → Prop} {w : World} (x0 : Array Value) (x1 : Int) (h : (laws_heldBook (real Tryz.prog R) x0 x1 : World → Prop) w) :
    Calls Tryz.prog n_laws_heldBook [(.agg x0), (.int .i64 x1)].toArray w fun e w' => ∃ v, e = .returned v ∧ R v w' := fT_sound mixed ⟨[], [], [], []⟩ (by rw [laws_heldBook_eq]; exact h)

def spec_UndoCommit (C : Comb) (x0 : Array Value) (x1 : Array Value) (x2 : Array Value) (x3 : ByteArray) : C.St :=
 C.new ty_impl_Book (.agg x0) fun b4 =>
 C.new ty_impl_Key (.agg x1) fun b5 =>
 C.new ty_impl_Key (.agg x2) fun b6 =>
 C.new ty_impl_Book (.agg (#[(.slice none 0 0), (.slice none 0 0)])) fun b8 =>
 C.new ty_impl_Key (.agg (Array.replicate 32 (.int .u8 0))) fun b9 =>
 C.ld .agg 32 (Addr.mk b5 0 none) fun v23 =>
 C.ld .agg 32 (Addr.mk b6 0 none) fun v24 =>
 C.call n_spec_l07Two [(.pointer (some (Addr.mk b4 0 none))), (.agg v23), (.agg v24)] [(.int .i64), (.int .i64), (.int .i64)] fun r25 =>
 cond (r25.2.2 != 0) (
 C.pur (Instr.build ty_impl_Book #[]) .agg fun y31 =>
 C.st 2 (Addr.mk b8 0 none) (.agg y31) <|
 C.st 32 (Addr.mk b9 0 none) (.agg (Array.replicate 32 (.int .u8 0))) <|
 C.ld .agg 2 (Addr.mk b8 0 none) fun z10 =>
 C.ld .agg 32 (Addr.mk b9 0 none) fun z11 =>
 C.ret (.tuple #[(.agg z10), (.agg z11), (.int .i64 r25.2.2)])
 ) (
 C.call n_spec_l07Changes [(.pointer (some (Addr.mk b4 0 none))), (.int .i64 r25.2.1)] [.slice, (.int .i64)] fun r36 =>
 cond (r36.2 != 0) (
 C.pur (Instr.build ty_impl_Book #[]) .agg fun y41 =>
 C.st 2 (Addr.mk b8 0 none) (.agg y41) <|
 C.st 32 (Addr.mk b9 0 none) (.agg (Array.replicate 32 (.int .u8 0))) <|
 C.ld .agg 2 (Addr.mk b8 0 none) fun z14 =>
 C.ld .agg 32 (Addr.mk b9 0 none) fun z15 =>
 C.ret (.tuple #[(.agg z14), (.agg z15), (.int .i64 r36.2)])
 ) (
 C.ld .slice 1 ((Addr.mk b4 0 none).add 1) fun v45 =>
 C.ix v45.a v45.n 1 r25.1 fun p47 =>
 C.ld .slice 1 p47 fun v48 =>
 C.join (TL []) (embL []) (fun s25 => C.any fun _ =>
 C.sem (Instr.buildSlice ty_sl_impl_Change 0 #[]) .slice fun y56 =>
 C.loop (TL [.slice, (.int .i64)]) (embL [.slice, (.int .i64)]) [(.slice y56.a y56.n y56.c), (.int .i64 0)] fun s27 ct27 => C.any fun _ =>
 cond (decide (s27.2 < (r36.1.n : Int))) (
 C.ix r36.1.a r36.1.n 5 s27.2 fun p65 =>
 C.ld .agg 5 p65 fun v66 =>
 C.new ty_impl_Change (.agg (#[(.string (⟨#[]⟩ : ByteArray)), (.bool false), (.string (⟨#[]⟩ : ByteArray)), (.bool false), (.string (⟨#[]⟩ : ByteArray))])) fun b19 =>
 C.st 5 (Addr.mk b19 0 none) (.agg v66) <|
 C.join (TL []) (embL []) (fun s42 => C.any fun _ =>
 C.ld .str 1 ((Addr.mk b19 0 none).add 0) fun v84 =>
 C.ld .bool 1 ((Addr.mk b19 0 none).add 3) fun v86 =>
 C.ld .str 1 ((Addr.mk b19 0 none).add 4) fun v88 =>
 C.ld .bool 1 ((Addr.mk b19 0 none).add 1) fun v90 =>
 C.ld .str 1 ((Addr.mk b19 0 none).add 2) fun v92 =>
 C.pur (Instr.build ty_impl_Change #[(0, (.string v84)), (1, (.bool v86)), (2, (.string v88)), (3, (.bool v90)), (4, (.string v92))]) .agg fun y93 =>
 C.sem (Instr.buildSlice ty_sl_impl_Change 1 #[(0, (.agg y93))]) .slice fun y94 =>
 C.sem (Builtin.append_ #[ty_sl_impl_Change, ty_sl_impl_Change] ty_sl_impl_Change #[(.slice s27.1.a s27.1.n s27.1.c), (.slice y94.a y94.n y94.c)]) .slice fun y95 =>
 ct27 [(.slice y95.a y95.n y95.c), (.int .i64 (IntKind.wrap .i64 (s27.2 + 1)))]
 ) fun jt =>
 C.draw <|
 C.ld .str 1 ((Addr.mk b19 0 none).add 0) fun v69 =>
 C.ld .slice 1 ((Addr.mk b4 0 none).add 1) fun v72 =>
 C.ix v72.a v72.n 1 r25.2.1 fun p74 =>
 C.ld .slice 1 p74 fun v75 =>
 C.ld .str 1 ((Addr.mk b19 0 none).add 0) fun v77 =>
 C.call n_spec_l07Has [(.slice v48.a v48.n v48.c), (.string v69)] [.agg] fun r70 =>
 C.chk [⟨10, 1, ((Addr.mk b19 0 none).add 0), .str, v77⟩, ⟨8, 1, p74, .slice, v75⟩, ⟨5, 1, ((Addr.mk b4 0 none).add 1), .slice, v72⟩] <|
 C.call n_spec_l07Has [(.slice v75.a v75.n v75.c), (.string v77)] [.agg] fun r78 =>
 C.chk [⟨5, 1, ((Addr.mk b4 0 none).add 1), .slice, v72⟩] <|
 C.pur (eqB .neq ty_impl_Change (.tmp 70) (.tmp 78) (.agg r70) (.agg r78)) .bool fun y79 =>
 cond y79 (
 C.pur (Instr.build ty_impl_Book #[]) .agg fun y80 =>
 C.st 2 (Addr.mk b8 0 none) (.agg y80) <|
 C.st 32 (Addr.mk b9 0 none) (.agg (Array.replicate 32 (.int .u8 0))) <|
 C.ld .agg 2 (Addr.mk b8 0 none) fun z40 =>
 C.ld .agg 32 (Addr.mk b9 0 none) fun z41 =>
 C.ret (.tuple #[(.agg z40), (.agg z41), (.int .i64 4)])
 ) (
 jt []
 )
 ) (
 C.call n_spec_l07Undone [(.slice v48.a v48.n v48.c), (.slice s27.1.a s27.1.n s27.1.c)] [.slice, (.int .i64)] fun r99 =>
 cond (r99.2 != 0) (
 C.pur (Instr.build ty_impl_Book #[]) .agg fun y104 =>
 C.st 2 (Addr.mk b8 0 none) (.agg y104) <|
 C.st 32 (Addr.mk b9 0 none) (.agg (Array.replicate 32 (.int .u8 0))) <|
 C.ld .agg 2 (Addr.mk b8 0 none) fun z53 =>
 C.ld .agg 32 (Addr.mk b9 0 none) fun z54 =>
 C.ret (.tuple #[(.agg z53), (.agg z54), (.int .i64 r99.2)])
 ) (
 C.ld .agg 32 (Addr.mk b5 0 none) fun v107 =>
 C.sem (Instr.buildSlice ty_sl_impl_Key 1 #[(0, (.agg v107))]) .slice fun y108 =>
 C.call n_spec_l07Commit [(.pointer (some (Addr.mk b4 0 none))), (.slice y108.a y108.n y108.c), (.slice r99.1.a r99.1.n r99.1.c), (.string x3)] [.agg, .agg, (.int .i64)] fun r111 =>
 C.st 2 (Addr.mk b8 0 none) (.agg r111.1) <|
 C.st 32 (Addr.mk b9 0 none) (.agg r111.2.1) <|
 C.ld .agg 2 (Addr.mk b8 0 none) fun z58 =>
 C.ld .agg 32 (Addr.mk b9 0 none) fun z59 =>
 C.ret (.tuple #[(.agg z58), (.agg z59), (.int .i64 r111.2.2)])
 )
 )
 ) fun jt =>
 C.draw <|
 C.ld .agg 32 (Addr.mk b6 0 none) fun v51 =>
 C.call n_spec_l07Above [(.pointer (some (Addr.mk b4 0 none))), (.int .i64 r25.1)] [.slice] fun r50 =>
 C.chk [⟨2, 32, (Addr.mk b6 0 none), .agg, v51⟩] <|
 C.call n_spec_l01Has [(.slice r50.a r50.n r50.c), (.agg v51)] [.bool] fun r52 =>
 cond (!r52) (
 C.pur (Instr.build ty_impl_Book #[]) .agg fun y54 =>
 C.st 2 (Addr.mk b8 0 none) (.agg y54) <|
 C.st 32 (Addr.mk b9 0 none) (.agg (Array.replicate 32 (.int .u8 0))) <|
 C.ld .agg 2 (Addr.mk b8 0 none) fun z23 =>
 C.ld .agg 32 (Addr.mk b9 0 none) fun z24 =>
 C.ret (.tuple #[(.agg z23), (.agg z24), (.int .i64 4)])
 ) (
 jt []
 )
 )
 )
theorem spec_UndoCommit_eq (C : Comb) (x0 : Array Value) (x1 : Array Value) (x2 : Array Value) (x3 : ByteArray) : fT C Tryz.prog ⟨[(12, [(17, .slice), (18, (.int .i64))])], [(159, []), (237, [])], [8, 15], []⟩ n_spec_UndoCommit [(.agg x0), (.agg x1), (.agg x2), (.string x3)] = spec_UndoCommit C x0 x1 x2 x3 := by kernel_rfl
theorem spec_UndoCommit_calls {R : Value → World → Prop} {w : World} (x0 : Array Value) (x1 : Array Value) (x2 : Array Value) (x3 : ByteArray) (h : (spec_UndoCommit (real Tryz.prog R) x0 x1 x2 x3 : World → Prop) w) :
    Calls Tryz.prog n_spec_UndoCommit [(.agg x0), (.agg x1), (.agg x2), (.string x3)].toArray w fun e w' => ∃ v, e = .returned v ∧ R v w' := fT_sound mixed ⟨[(12, [(17, .slice), (18, (.int .i64))])], [(159, []), (237, [])], [8, 15], []⟩ (by rw [spec_UndoCommit_eq]; exact h)

def impl_UndoCommit (C : Comb) (x0 : Array Value) (x1 : Array Value) (x2 : Array Value) (x3 : ByteArray) : C.St :=
 C.new ty_impl_Book (.agg x0) fun b4 =>
 C.new ty_impl_Key (.agg x1) fun b5 =>
 C.new ty_impl_Key (.agg x2) fun b6 =>
 C.new ty_impl_Book (.agg (#[(.slice none 0 0), (.slice none 0 0)])) fun b8 =>
 C.new ty_impl_Key (.agg (Array.replicate 32 (.int .u8 0))) fun b9 =>
 C.ld .agg 2 (Addr.mk b4 0 none) fun v20 =>
 C.ld .agg 32 (Addr.mk b5 0 none) fun v21 =>
 C.ld .agg 32 (Addr.mk b6 0 none) fun v22 =>
 C.sem (Instr.buildSlice ty_sl_impl_Key 2 #[(0, (.agg v21)), (1, (.agg v22))]) .slice fun y23 =>
 C.call n_impl_open [(.agg v20), (.slice y23.a y23.n y23.c)] [.optr, (.int .i64)] fun r24 =>
 C.new ty_ptr_impl_ledger (.pointer none) fun b11 =>
 C.st 1 (Addr.mk b11 0 none) (.pointer r24.1) <|
 cond (r24.2 != 0) (
 C.pur (Instr.build ty_impl_Book #[]) .agg fun y29 =>
 C.st 2 (Addr.mk b8 0 none) (.agg y29) <|
 C.st 32 (Addr.mk b9 0 none) (.agg (Array.replicate 32 (.int .u8 0))) <|
 C.ld .agg 2 (Addr.mk b8 0 none) fun z13 =>
 C.ld .agg 32 (Addr.mk b9 0 none) fun z14 =>
 C.ret (.tuple #[(.agg z13), (.agg z14), (.int .i64 r24.2)])
 ) (
 C.ld .ptr 1 (Addr.mk b11 0 none) fun v32 =>
 C.ld .agg 32 (Addr.mk b6 0 none) fun v33 =>
 C.call n_ptr_impl_ledger_changesAt [(.pointer (some v32)), (.agg v33)] [.slice] fun r34 =>
 C.join (TL []) (embL []) (fun s29 => C.any fun _ =>
 C.ld .ptr 1 (Addr.mk b11 0 none) fun v47 =>
 C.ld .agg 32 (Addr.mk b5 0 none) fun v48 =>
 C.call n_ptr_impl_ledger_mapOf [(.pointer (some v47)), (.agg v48)] [.slice] fun r49 =>
 C.call n_slices_Clone_sl_impl_Entry_impl_Entry [(.slice r49.a r49.n r49.c)] [.slice] fun r50 =>
 C.loop (TL [.slice, (.int .i64)]) (embL [.slice, (.int .i64)]) [(.slice r50.a r50.n r50.c), (.int .i64 0)] fun s34 ct34 => C.any fun _ =>
 cond (decide (s34.2 < (r34.n : Int))) (
 C.ix r34.a r34.n 5 s34.2 fun p55 =>
 C.ld .agg 5 p55 fun v56 =>
 C.new ty_impl_Change (.agg (#[(.string (⟨#[]⟩ : ByteArray)), (.bool false), (.string (⟨#[]⟩ : ByteArray)), (.bool false), (.string (⟨#[]⟩ : ByteArray))])) fun b16 =>
 C.st 5 (Addr.mk b16 0 none) (.agg v56) <|
 C.ld .str 1 ((Addr.mk b16 0 none).add 0) fun v60 =>
 C.call n_impl_find [(.slice s34.1.a s34.1.n s34.1.c), (.string v60)] [(.int .i64), .bool] fun r61 =>
 C.join (TL [.bool]) (embL [.bool]) (fun s41 => C.any fun _ =>
 cond s41 (
 C.ld .str 1 ((Addr.mk b16 0 none).add 2) fun v73 =>
 C.ix s34.1.a s34.1.n 2 r61.1 fun p74 =>
 C.st 1 (p74.add 1) (.string v73) <|
 ct34 [(.slice s34.1.a s34.1.n s34.1.c), (.int .i64 (IntKind.wrap .i64 (s34.2 + 1)))]
 ) (
 cond r61.2 (
 C.call n_slices_Delete_sl_impl_Entry_impl_Entry [(.slice s34.1.a s34.1.n s34.1.c), (.int .i64 r61.1), (.int .i64 (IntKind.wrap .i64 (r61.1 + 1)))] [.slice] fun r82 =>
 ct34 [(.slice r82.a r82.n r82.c), (.int .i64 (IntKind.wrap .i64 (s34.2 + 1)))]
 ) (
 C.ld .bool 1 ((Addr.mk b16 0 none).add 1) fun v85 =>
 cond v85 (
 C.ld .str 1 ((Addr.mk b16 0 none).add 0) fun v89 =>
 C.ld .str 1 ((Addr.mk b16 0 none).add 2) fun v91 =>
 C.pur (Instr.build ty_impl_Entry #[(0, (.string v89)), (1, (.string v91))]) .agg fun y92 =>
 C.sem (Instr.buildSlice ty_sl_impl_Entry 1 #[(0, (.agg y92))]) .slice fun y93 =>
 C.call n_slices_Insert_sl_impl_Entry_impl_Entry [(.slice s34.1.a s34.1.n s34.1.c), (.int .i64 r61.1), (.slice y93.a y93.n y93.c)] [.slice] fun r94 =>
 ct34 [(.slice r94.a r94.n r94.c), (.int .i64 (IntKind.wrap .i64 (s34.2 + 1)))]
 ) (
 ct34 [(.slice s34.1.a s34.1.n s34.1.c), (.int .i64 (IntKind.wrap .i64 (s34.2 + 1)))]
 )
 )
 )
 ) fun jt =>
 cond r61.2 (
 C.ld .bool 1 ((Addr.mk b16 0 none).add 1) fun v68 =>
 jt [(.bool v68)]
 ) (
 jt [(.bool false)]
 )
 ) (
 cond (decide ((s34.1.n : Int) > 64)) (
 C.pur (Instr.build ty_impl_Book #[]) .agg fun y99 =>
 C.st 2 (Addr.mk b8 0 none) (.agg y99) <|
 C.st 32 (Addr.mk b9 0 none) (.agg (Array.replicate 32 (.int .u8 0))) <|
 C.ld .agg 2 (Addr.mk b8 0 none) fun z52 =>
 C.ld .agg 32 (Addr.mk b9 0 none) fun z53 =>
 C.ret (.tuple #[(.agg z52), (.agg z53), (.int .i64 3)])
 ) (
 C.ld .ptr 1 (Addr.mk b11 0 none) fun v101 =>
 C.ld .agg 32 (Addr.mk b5 0 none) fun v102 =>
 C.sem (Instr.buildSlice ty_sl_impl_Key 1 #[(0, (.agg v102))]) .slice fun y103 =>
 C.call n_ptr_impl_ledger_commit [(.pointer (some v101)), (.slice y103.a y103.n y103.c), (.slice s34.1.a s34.1.n s34.1.c), (.string x3)] [.agg, .agg, (.int .i64)] fun r106 =>
 C.st 2 (Addr.mk b8 0 none) (.agg r106.1) <|
 C.st 32 (Addr.mk b9 0 none) (.agg r106.2.1) <|
 C.ld .agg 2 (Addr.mk b8 0 none) fun z58 =>
 C.ld .agg 32 (Addr.mk b9 0 none) fun z59 =>
 C.ret (.tuple #[(.agg z58), (.agg z59), (.int .i64 r106.2.2)])
 )
 )
 ) fun jt =>
 C.ld .ptr 1 (Addr.mk b11 0 none) fun v35 =>
 C.ld .agg 32 (Addr.mk b6 0 none) fun v36 =>
 C.ld .agg 32 (Addr.mk b5 0 none) fun v37 =>
 C.call n_ptr_impl_ledger_isAncestor [(.pointer (some v35)), (.agg v36), (.agg v37)] [.bool] fun r38 =>
 cond (!r38) (
 C.pur (Instr.build ty_impl_Book #[]) .agg fun y45 =>
 C.st 2 (Addr.mk b8 0 none) (.agg y45) <|
 C.st 32 (Addr.mk b9 0 none) (.agg (Array.replicate 32 (.int .u8 0))) <|
 C.ld .agg 2 (Addr.mk b8 0 none) fun z23 =>
 C.ld .agg 32 (Addr.mk b9 0 none) fun z24 =>
 C.ret (.tuple #[(.agg z23), (.agg z24), (.int .i64 4)])
 ) (
 C.call n_slices_ContainsFunc_sl_impl_Change_impl_Change [(.slice r34.a r34.n r34.c), (.func (.func n_impl_UndoCommit_1) #[] #[(.pointer (some (Addr.mk b11 0 none))), (.pointer (some (Addr.mk b5 0 none))), (.pointer (some (Addr.mk b6 0 none)))])] [.bool] fun r43 =>
 cond r43 (
 C.pur (Instr.build ty_impl_Book #[]) .agg fun y45 =>
 C.st 2 (Addr.mk b8 0 none) (.agg y45) <|
 C.st 32 (Addr.mk b9 0 none) (.agg (Array.replicate 32 (.int .u8 0))) <|
 C.ld .agg 2 (Addr.mk b8 0 none) fun z27 =>
 C.ld .agg 32 (Addr.mk b9 0 none) fun z28 =>
 C.ret (.tuple #[(.agg z27), (.agg z28), (.int .i64 4)])
 ) (
 jt []
 )
 )
 )
theorem impl_UndoCommit_eq (C : Comb) (x0 : Array Value) (x1 : Array Value) (x2 : Array Value) (x3 : ByteArray) : fT C Tryz.prog ⟨[(9, [(14, .slice), (53, (.int .i64))])], [(132, []), (37, [(64, .bool)])], [], []⟩ n_impl_UndoCommit [(.agg x0), (.agg x1), (.agg x2), (.string x3)] = impl_UndoCommit C x0 x1 x2 x3 := by kernel_rfl
theorem impl_UndoCommit_calls {R : Value → World → Prop} {w : World} (x0 : Array Value) (x1 : Array Value) (x2 : Array Value) (x3 : ByteArray) (h : (impl_UndoCommit (real Tryz.prog R) x0 x1 x2 x3 : World → Prop) w) :
    Calls Tryz.prog n_impl_UndoCommit [(.agg x0), (.agg x1), (.agg x2), (.string x3)].toArray w fun e w' => ∃ v, e = .returned v ∧ R v w' := fT_sound mixed ⟨[(9, [(14, .slice), (53, (.int .i64))])], [(132, []), (37, [(64, .bool)])], [], []⟩ (by rw [impl_UndoCommit_eq]; exact h)

def impl_open (C : Comb) (x0 : Array Value) (x1 : Sl) : C.St :=
 C.new ty_impl_Book (.agg x0) fun b2 =>
 C.ld .agg 2 (Addr.mk b2 0 none) fun v13 =>
 C.call n_impl_newLedger [(.agg v13)] [.optr, .bool] fun r14 =>
 cond (!r14.2) (
 C.ret (.tuple #[(.pointer none), (.int .i64 1)])
 ) (
 C.loop (TL [(.int .i64)]) (embL [(.int .i64)]) [(.int .i64 0)] fun s4 ct4 => C.any fun _ =>
 cond (decide (s4 < (x1.n : Int))) (
 C.ix x1.a x1.n 32 s4 fun p23 =>
 C.ld .agg 32 p23 fun v24 =>
 C.new ty_impl_Key (.agg (Array.replicate 32 (.int .u8 0))) fun b9 =>
 C.st 32 (Addr.mk b9 0 none) (.agg v24) <|
 C.ld .agg 32 (Addr.mk b9 0 none) fun v27 =>
 C.call n_ptr_impl_ledger_find [(.pointer r14.1), (.agg v27)] [(.int .i64), .bool] fun r28 =>
 cond (!r28.2) (
 C.ret (.tuple #[(.pointer none), (.int .i64 6)])
 ) (
 ct4 [(.int .i64 (IntKind.wrap .i64 (s4 + 1)))]
 )
 ) (
 C.ret (.tuple #[(.pointer r14.1), (.int .i64 0)])
 )
 )
theorem impl_open_eq (C : Comb) (x0 : Array Value) (x1 : Sl) : fT C Tryz.prog ⟨[(5, [(21, (.int .i64))])], [], [], []⟩ n_impl_open [(.agg x0), (.slice x1.a x1.n x1.c)] = impl_open C x0 x1 := by kernel_rfl
theorem impl_open_calls {R : Value → World → Prop} {w : World} (x0 : Array Value) (x1 : Sl) (h : (impl_open (real Tryz.prog R) x0 x1 : World → Prop) w) :
    Calls Tryz.prog n_impl_open [(.agg x0), (.slice x1.a x1.n x1.c)].toArray w fun e w' => ∃ v, e = .returned v ∧ R v w' := fT_sound mixed ⟨[(5, [(21, (.int .i64))])], [], [], []⟩ (by rw [impl_open_eq]; exact h)

def impl_sorted (C : Comb) (x0 : Sl) : C.St :=
 C.call n_slices_Clone_sl_impl_Key_impl_Key [(.slice x0.a x0.n x0.c)] [.slice] fun r5 =>
 C.call n_slices_SortFunc_sl_impl_Key_impl_Key [(.slice r5.a r5.n r5.c), (.func (.func n_impl_compareKeys) #[] #[])] [] fun r7 =>
 C.call n_slices_Compact_sl_impl_Key_impl_Key [(.slice r5.a r5.n r5.c)] [.slice] fun r9 =>
 C.ret (.slice r9.a r9.n r9.c)
theorem impl_sorted_eq (C : Comb) (x0 : Sl) : fT C Tryz.prog ⟨[], [], [], []⟩ n_impl_sorted [(.slice x0.a x0.n x0.c)] = impl_sorted C x0 := by kernel_rfl
theorem impl_sorted_calls {R : Value → World → Prop} {w : World} (x0 : Sl) (h : (impl_sorted (real Tryz.prog R) x0 : World → Prop) w) :
    Calls Tryz.prog n_impl_sorted [(.slice x0.a x0.n x0.c)].toArray w fun e w' => ∃ v, e = .returned v ∧ R v w' := fT_sound mixed ⟨[], [], [], []⟩ (by rw [impl_sorted_eq]; exact h)

def slices_Clone_sl_impl_Key_impl_Key (C : Comb) (x0 : Sl) : C.St :=
 C.pur (eqB .eql ty_sl_impl_Key (.tmp 3) (.const (.slice none 0 0)) (.slice x0.a x0.n x0.c) (.slice none 0 0)) .bool fun y4 =>
 cond y4 (
 C.ret (.slice none 0 0)
 ) (
 C.sem (Instr.buildSlice ty_sl_impl_Key 0 #[]) .slice fun y5 =>
 C.sem (Builtin.append_ #[ty_sl_impl_Key, ty_sl_impl_Key] ty_sl_impl_Key #[(.slice y5.a y5.n y5.c), (.slice x0.a x0.n x0.c)]) .slice fun y7 =>
 C.ret (.slice y7.a y7.n y7.c)
 )
theorem slices_Clone_sl_impl_Key_impl_Key_eq (C : Comb) (x0 : Sl) : fT C Tryz.prog ⟨[], [], [], []⟩ n_slices_Clone_sl_impl_Key_impl_Key [(.slice x0.a x0.n x0.c)] = slices_Clone_sl_impl_Key_impl_Key C x0 := by kernel_rfl
theorem slices_Clone_sl_impl_Key_impl_Key_calls {R : Value → World → Prop} {w : World} (x0 : Sl) (h : (slices_Clone_sl_impl_Key_impl_Key (real Tryz.prog R) x0 : World → Prop) w) :
    Calls Tryz.prog n_slices_Clone_sl_impl_Key_impl_Key [(.slice x0.a x0.n x0.c)].toArray w fun e w' => ∃ v, e = .returned v ∧ R v w' := fT_sound mixed ⟨[], [], [], []⟩ (by rw [slices_Clone_sl_impl_Key_impl_Key_eq]; exact h)

def slices_Contains_sl_impl_Key_impl_Key (C : Comb) (x0 : Sl) (x1 : Array Value) : C.St :=
 C.new ty_impl_Key (.agg x1) fun b3 =>
 C.ld .agg 32 (Addr.mk b3 0 none) fun v6 =>
 C.call n_slices_Index_sl_impl_Key_impl_Key [(.slice x0.a x0.n x0.c), (.agg v6)] [(.int .i64)] fun r7 =>
 C.ret (.bool (decide (r7 ≥ 0)))
theorem slices_Contains_sl_impl_Key_impl_Key_eq (C : Comb) (x0 : Sl) (x1 : Array Value) : fT C Tryz.prog ⟨[], [], [], []⟩ n_slices_Contains_sl_impl_Key_impl_Key [(.slice x0.a x0.n x0.c), (.agg x1)] = slices_Contains_sl_impl_Key_impl_Key C x0 x1 := by kernel_rfl
theorem slices_Contains_sl_impl_Key_impl_Key_calls {R : Value → World → Prop} {w : World} (x0 : Sl) (x1 : Array Value) (h : (slices_Contains_sl_impl_Key_impl_Key (real Tryz.prog R) x0 x1 : World → Prop) w) :
    Calls Tryz.prog n_slices_Contains_sl_impl_Key_impl_Key [(.slice x0.a x0.n x0.c), (.agg x1)].toArray w fun e w' => ∃ v, e = .returned v ∧ R v w' := fT_sound mixed ⟨[], [], [], []⟩ (by rw [slices_Contains_sl_impl_Key_impl_Key_eq]; exact h)

def spec_l07Ok (C : Comb) (x0 : Addr) : C.St :=
 C.join (TL []) (embL []) (fun s5 => C.any fun _ =>
 C.loop (TL [(.int .i64)]) (embL [(.int .i64)]) [(.int .i64 1)] fun s6 ct6 => C.any fun _ =>
 C.ld .slice 1 (x0.add 32) fun v30 =>
 cond (decide (s6 < (v30.n : Int))) (
 C.draw <|
 C.ld .slice 1 (x0.add 32) fun v38 =>
 C.ix v38.a v38.n 32 (IntKind.wrap .i64 (s6 - 1)) fun p41 =>
 C.ld .agg 32 p41 fun v42 =>
 C.ld .slice 1 (x0.add 32) fun v46 =>
 C.ix v46.a v46.n 32 s6 fun p48 =>
 C.ld .agg 32 p48 fun v49 =>
 C.call n_spec_l01Compare [(.agg v42), (.agg v49)] [(.int .i64)] fun r50 =>
 C.chk [⟨11, 1, (x0.add 32), .slice, v46⟩, ⟨3, 1, (x0.add 32), .slice, v38⟩] <|
 cond (decide (r50 ≥ 0)) (
 C.ret (.bool false)
 ) (
 ct6 [(.int .i64 (IntKind.wrap .i64 (s6 + 1)))]
 )
 ) (
 C.ret (.bool true)
 )
 ) fun jt =>
 C.ld .slice 1 (x0.add 32) fun v7 =>
 cond (decide ((v7.n : Int) > 3)) (
 C.ret (.bool false)
 ) (
 C.ld (.int .i64) 1 (x0.add 33) fun v14 =>
 C.call n_spec_l00In [(.int .i64 v14), (.int .i64 0), (.int .i64 40)] [.bool] fun r15 =>
 cond (!r15) (
 C.ret (.bool false)
 ) (
 C.ld .str 1 (x0.add 34) fun v22 =>
 cond (decide ((v22.size : Int) > 64)) (
 C.ret (.bool false)
 ) (
 jt []
 )
 )
 )
theorem spec_l07Ok_eq (C : Comb) (x0 : Addr) : fT C Tryz.prog ⟨[(4, [(3, (.int .i64))])], [(75, [])], [6], []⟩ n_spec_l07Ok [(.pointer (some x0))] = spec_l07Ok C x0 := by kernel_rfl
theorem spec_l07Ok_calls {R : Value → World → Prop} {w : World} (x0 : Addr) (h : (spec_l07Ok (real Tryz.prog R) x0 : World → Prop) w) :
    Calls Tryz.prog n_spec_l07Ok [(.pointer (some x0))].toArray w fun e w' => ∃ v, e = .returned v ∧ R v w' := fT_sound mixed ⟨[(4, [(3, (.int .i64))])], [(75, [])], [6], []⟩ (by rw [spec_l07Ok_eq]; exact h)

def spec_l07Key (C : Comb) (x0 : Addr) : C.St :=
 C.new ty_impl_Key (.agg (Array.replicate 32 (.int .u8 0))) fun b2 =>
 C.call n_spec_l07Data [(.pointer (some x0))] [.slice] fun r4 =>
 C.call n_spec_l01Hash [(.int .u8 7), (.slice r4.a r4.n r4.c)] [.agg] fun r5 =>
 C.st 32 (Addr.mk b2 0 none) (.agg r5) <|
 C.ld .agg 32 (Addr.mk b2 0 none) fun z4 =>
 C.ret (.agg z4)
theorem spec_l07Key_eq (C : Comb) (x0 : Addr) : fT C Tryz.prog ⟨[], [], [], []⟩ n_spec_l07Key [(.pointer (some x0))] = spec_l07Key C x0 := by kernel_rfl
theorem spec_l07Key_calls {R : Value → World → Prop} {w : World} (x0 : Addr) (h : (spec_l07Key (real Tryz.prog R) x0 : World → Prop) w) :
    Calls Tryz.prog n_spec_l07Key [(.pointer (some x0))].toArray w fun e w' => ∃ v, e = .returned v ∧ R v w' := fT_sound mixed ⟨[], [], [], []⟩ (by rw [spec_l07Key_eq]; exact h)

def ptr_impl_ledger_ancestors (C : Comb) (x0 : Addr) (x1 : Array Value) : C.St :=
 C.new ty_impl_Key (.agg x1) fun b3 =>
 C.ld .agg 32 (Addr.mk b3 0 none) fun v9 =>
 C.sem (Instr.buildSlice ty_sl_impl_Key 1 #[(0, (.agg v9))]) .slice fun y10 =>
 C.loop (TL [.slice, (.int .i64)]) (embL [.slice, (.int .i64)]) [(.slice y10.a y10.n y10.c), (.int .i64 0)] fun s4 ct4 => C.any fun _ =>
 cond (decide (s4.2 < (s4.1.n : Int))) (
 C.join (TL [.slice, (.int .i64), (.int .i64)]) (embL [.slice, (.int .i64), (.int .i64)]) (fun s11 => C.any fun _ =>
 C.loop (TL [.slice, (.int .i64)]) (embL [.slice, (.int .i64)]) [(.slice s4.1.a s4.1.n s4.1.c), (.int .i64 s11.2.2)] fun s12 ct12 => C.any fun _ =>
 cond (decide (s12.2 < s11.2.1)) (
 C.ix s11.1.a s11.1.n 32 s12.2 fun p34 =>
 C.ld .agg 32 p34 fun v35 =>
 C.new ty_impl_Key (.agg (Array.replicate 32 (.int .u8 0))) fun b8 =>
 C.st 32 (Addr.mk b8 0 none) (.agg v35) <|
 C.ld .agg 32 (Addr.mk b8 0 none) fun v37 =>
 C.call n_slices_Contains_sl_impl_Key_impl_Key [(.slice s12.1.a s12.1.n s12.1.c), (.agg v37)] [.bool] fun r38 =>
 cond (!r38) (
 C.ld .agg 32 (Addr.mk b8 0 none) fun v41 =>
 C.sem (Instr.buildSlice ty_sl_impl_Key 1 #[(0, (.agg v41))]) .slice fun y42 =>
 C.sem (Builtin.append_ #[ty_sl_impl_Key, ty_sl_impl_Key] ty_sl_impl_Key #[(.slice s12.1.a s12.1.n s12.1.c), (.slice y42.a y42.n y42.c)]) .slice fun y43 =>
 ct12 [(.slice y43.a y43.n y43.c), (.int .i64 (IntKind.wrap .i64 (s12.2 + 1)))]
 ) (
 ct12 [(.slice s12.1.a s12.1.n s12.1.c), (.int .i64 (IntKind.wrap .i64 (s12.2 + 1)))]
 )
 ) (
 ct4 [(.slice s12.1.a s12.1.n s12.1.c), (.int .i64 (IntKind.wrap .i64 (s4.2 + 1)))]
 )
 ) fun jt =>
 C.draw <|
 C.ld .slice 1 ((x0.add 0).add 0) fun v21 =>
 C.ix s4.1.a s4.1.n 32 s4.2 fun p25 =>
 C.ld .agg 32 p25 fun v26 =>
 C.call n_ptr_impl_ledger_at [(.pointer (some x0)), (.agg v26)] [(.int .i64)] fun r27 =>
 C.chk [⟨4, 1, ((x0.add 0).add 0), .slice, v21⟩] <|
 C.ix v21.a v21.n 35 r27 fun p28 =>
 C.ld .slice 1 (p28.add 32) fun v30 =>
 jt [(.slice v30.a v30.n v30.c), (.int .i64 (v30.n : Int)), (.int .i64 0)]
 ) (
 C.call n_impl_sorted [(.slice s4.1.a s4.1.n s4.1.c)] [.slice] fun r46 =>
 C.ret (.slice r46.a r46.n r46.c)
 )
theorem ptr_impl_ledger_ancestors_eq (C : Comb) (x0 : Addr) (x1 : Array Value) : fT C Tryz.prog ⟨[(3, [(5, .slice), (6, (.int .i64))]), (6, [(5, .slice), (32, (.int .i64))])], [(16, [(30, .slice), (31, (.int .i64)), (32, (.int .i64))])], [5], []⟩ n_ptr_impl_ledger_ancestors [(.pointer (some x0)), (.agg x1)] = ptr_impl_ledger_ancestors C x0 x1 := by kernel_rfl
theorem ptr_impl_ledger_ancestors_calls {R : Value → World → Prop} {w : World} (x0 : Addr) (x1 : Array Value) (h : (ptr_impl_ledger_ancestors (real Tryz.prog R) x0 x1 : World → Prop) w) :
    Calls Tryz.prog n_ptr_impl_ledger_ancestors [(.pointer (some x0)), (.agg x1)].toArray w fun e w' => ∃ v, e = .returned v ∧ R v w' := fT_sound mixed ⟨[(3, [(5, .slice), (6, (.int .i64))]), (6, [(5, .slice), (32, (.int .i64))])], [(16, [(30, .slice), (31, (.int .i64)), (32, (.int .i64))])], [5], []⟩ (by rw [ptr_impl_ledger_ancestors_eq]; exact h)

def ptr_impl_ledger_isAncestor (C : Comb) (x0 : Addr) (x1 : Array Value) (x2 : Array Value) : C.St :=
 C.new ty_impl_Key (.agg x1) fun b4 =>
 C.new ty_impl_Key (.agg x2) fun b5 =>
 C.draw <|
 C.ld .agg 32 (Addr.mk b5 0 none) fun v8 =>
 C.ld .agg 32 (Addr.mk b4 0 none) fun v10 =>
 C.call n_ptr_impl_ledger_ancestors [(.pointer (some x0)), (.agg v8)] [.slice] fun r9 =>
 C.chk [⟨3, 32, (Addr.mk b4 0 none), .agg, v10⟩] <|
 C.call n_slices_Contains_sl_impl_Key_impl_Key [(.slice r9.a r9.n r9.c), (.agg v10)] [.bool] fun r11 =>
 C.ret (.bool r11)
theorem ptr_impl_ledger_isAncestor_eq (C : Comb) (x0 : Addr) (x1 : Array Value) (x2 : Array Value) : fT C Tryz.prog ⟨[], [], [1], []⟩ n_ptr_impl_ledger_isAncestor [(.pointer (some x0)), (.agg x1), (.agg x2)] = ptr_impl_ledger_isAncestor C x0 x1 x2 := by kernel_rfl
theorem ptr_impl_ledger_isAncestor_calls {R : Value → World → Prop} {w : World} (x0 : Addr) (x1 : Array Value) (x2 : Array Value) (h : (ptr_impl_ledger_isAncestor (real Tryz.prog R) x0 x1 x2 : World → Prop) w) :
    Calls Tryz.prog n_ptr_impl_ledger_isAncestor [(.pointer (some x0)), (.agg x1), (.agg x2)].toArray w fun e w' => ∃ v, e = .returned v ∧ R v w' := fT_sound mixed ⟨[], [], [1], []⟩ (by rw [ptr_impl_ledger_isAncestor_eq]; exact h)

def impl_compareKeys (C : Comb) (x0 : Array Value) (x1 : Array Value) : C.St :=
 C.new ty_impl_Key (.agg x0) fun b2 =>
 C.new ty_impl_Key (.agg x1) fun b3 =>
 C.draw <|
 C.sl (some (Addr.mk b2 0 none)) 32 32 1 none none none fun y5 =>
 C.sl (some (Addr.mk b3 0 none)) 32 32 1 none none none fun y6 =>
 C.callQ n_slices_Compare_sl_byte_byte [(.slice y5.a y5.n y5.c), (.slice y6.a y6.n y6.c)] [(.int .i64)] fun r7 =>
 C.ret (.int .i64 r7)
theorem impl_compareKeys_eq (C : Comb) (x0 : Array Value) (x1 : Array Value) : fT C Tryz.prog ⟨[], [], [], []⟩ n_impl_compareKeys [(.agg x0), (.agg x1)] = impl_compareKeys C x0 x1 := by kernel_rfl
theorem impl_compareKeys_calls {R : Value → World → Prop} {w : World} (x0 : Array Value) (x1 : Array Value) (h : (impl_compareKeys (real Tryz.prog R) x0 x1 : World → Prop) w) :
    Calls Tryz.prog n_impl_compareKeys [(.agg x0), (.agg x1)].toArray w fun e w' => ∃ v, e = .returned v ∧ R v w' := fT_sound mixed ⟨[], [], [], []⟩ (by rw [impl_compareKeys_eq]; exact h)

def spec_l07At (C : Comb) (x0 : Addr) (x1 : Array Value) : C.St :=
 C.new ty_impl_Key (.agg x1) fun b3 =>
 C.call n_spec_l07Book [(.pointer (some x0))] [.bool] fun r8 =>
 cond (!r8) (
 C.ret (.tuple #[(.int .i64 0), (.int .i64 1)])
 ) (
 C.join (TL [(.int .i64)]) (embL [(.int .i64)]) (fun s6 => C.any fun _ =>
 cond (decide (s6 < 0)) (
 C.ret (.tuple #[(.int .i64 0), (.int .i64 6)])
 ) (
 C.ret (.tuple #[(.int .i64 s6), (.int .i64 0)])
 )
 ) fun jt =>
 C.draw <|
 C.ld .agg 32 (Addr.mk b3 0 none) fun v12 =>
 C.call n_spec_l07Keys [(.pointer (some x0))] [.slice] fun r11 =>
 C.chk [⟨2, 32, (Addr.mk b3 0 none), .agg, v12⟩] <|
 C.call n_spec_l07Find [(.slice r11.a r11.n r11.c), (.agg v12)] [(.int .i64)] fun r13 =>
 jt [(.int .i64 r13)]
 )
theorem spec_l07At_eq (C : Comb) (x0 : Addr) (x1 : Array Value) : fT C Tryz.prog ⟨[], [(10, [(6, (.int .i64))])], [3], []⟩ n_spec_l07At [(.pointer (some x0)), (.agg x1)] = spec_l07At C x0 x1 := by kernel_rfl
theorem spec_l07At_calls {R : Value → World → Prop} {w : World} (x0 : Addr) (x1 : Array Value) (h : (spec_l07At (real Tryz.prog R) x0 x1 : World → Prop) w) :
    Calls Tryz.prog n_spec_l07At [(.pointer (some x0)), (.agg x1)].toArray w fun e w' => ∃ v, e = .returned v ∧ R v w' := fT_sound mixed ⟨[], [(10, [(6, (.int .i64))])], [3], []⟩ (by rw [spec_l07At_eq]; exact h)

def spec_l07Above (C : Comb) (x0 : Addr) (x1 : Int) : C.St :=
 C.call n_spec_l07Keys [(.pointer (some x0))] [.slice] fun r11 =>
 C.ix r11.a r11.n 32 x1 fun p14 =>
 C.ld .agg 32 p14 fun v15 =>
 C.sem (Instr.buildSlice ty_sl_impl_Key 1 #[(0, (.agg v15))]) .slice fun y16 =>
 C.loop (TL [.slice, (.int .i64)]) (embL [.slice, (.int .i64)]) [(.slice y16.a y16.n y16.c), (.int .i64 0)] fun s5 ct5 => C.any fun _ =>
 cond (decide (s5.2 < (s5.1.n : Int))) (
 C.join (TL [.ptr]) (embL [.ptr]) (fun s17 => C.any fun _ =>
 C.loop (TL [.slice, (.int .i64)]) (embL [.slice, (.int .i64)]) [(.slice s5.1.a s5.1.n s5.1.c), (.int .i64 0)] fun s18 ct18 => C.any fun _ =>
 C.ld .slice 1 (s17.add 32) fun v37 =>
 cond (decide (s18.2 < (v37.n : Int))) (
 C.ld .slice 1 (s17.add 32) fun v44 =>
 C.ix v44.a v44.n 32 s18.2 fun p46 =>
 C.ld .agg 32 p46 fun v47 =>
 C.call n_spec_l01Has [(.slice s18.1.a s18.1.n s18.1.c), (.agg v47)] [.bool] fun r48 =>
 cond (!r48) (
 C.ld .slice 1 (s17.add 32) fun v52 =>
 C.ix v52.a v52.n 32 s18.2 fun p54 =>
 C.ld .agg 32 p54 fun v55 =>
 C.sem (Instr.buildSlice ty_sl_impl_Key 1 #[(0, (.agg v55))]) .slice fun y56 =>
 C.sem (Builtin.append_ #[ty_sl_impl_Key, ty_sl_impl_Key] ty_sl_impl_Key #[(.slice s18.1.a s18.1.n s18.1.c), (.slice y56.a y56.n y56.c)]) .slice fun y57 =>
 ct18 [(.slice y57.a y57.n y57.c), (.int .i64 (IntKind.wrap .i64 (s18.2 + 1)))]
 ) (
 ct18 [(.slice s18.1.a s18.1.n s18.1.c), (.int .i64 (IntKind.wrap .i64 (s18.2 + 1)))]
 )
 ) (
 ct5 [(.slice s18.1.a s18.1.n s18.1.c), (.int .i64 (IntKind.wrap .i64 (s5.2 + 1)))]
 )
 ) fun jt =>
 C.draw <|
 C.ld .slice 1 (x0.add 0) fun v26 =>
 C.ix s5.1.a s5.1.n 32 s5.2 fun p30 =>
 C.ld .agg 32 p30 fun v31 =>
 C.all [
 (C.call n_spec_l07Find [(.slice r11.a r11.n r11.c), (.agg v31)] [(.int .i64)] fun r32 =>
 C.chk [⟨3, 1, (x0.add 0), .slice, v26⟩] <|
 C.ix v26.a v26.n 35 r32 fun p33 =>
 C.ld .agg 35 p33 fun v34 =>
 C.new ty_impl_Commit (.agg (#[(.int .u8 0), (.int .u8 0), (.int .u8 0), (.int .u8 0), (.int .u8 0), (.int .u8 0), (.int .u8 0), (.int .u8 0), (.int .u8 0), (.int .u8 0), (.int .u8 0), (.int .u8 0), (.int .u8 0), (.int .u8 0), (.int .u8 0), (.int .u8 0), (.int .u8 0), (.int .u8 0), (.int .u8 0), (.int .u8 0), (.int .u8 0), (.int .u8 0), (.int .u8 0), (.int .u8 0), (.int .u8 0), (.int .u8 0), (.int .u8 0), (.int .u8 0), (.int .u8 0), (.int .u8 0), (.int .u8 0), (.int .u8 0), (.slice none 0 0), (.int .i64 0), (.string (⟨#[]⟩ : ByteArray))])) fun b8 =>
 C.chk [⟨11, 35, p33, .agg, v34⟩, ⟨3, 1, (x0.add 0), .slice, v26⟩] <|
 C.st 35 (Addr.mk b8 0 none) (.agg v34) <|
 jt [(.pointer (some (Addr.mk b8 0 none)))]),
 (C.new ty_impl_Commit (.agg (#[(.int .u8 0), (.int .u8 0), (.int .u8 0), (.int .u8 0), (.int .u8 0), (.int .u8 0), (.int .u8 0), (.int .u8 0), (.int .u8 0), (.int .u8 0), (.int .u8 0), (.int .u8 0), (.int .u8 0), (.int .u8 0), (.int .u8 0), (.int .u8 0), (.int .u8 0), (.int .u8 0), (.int .u8 0), (.int .u8 0), (.int .u8 0), (.int .u8 0), (.int .u8 0), (.int .u8 0), (.int .u8 0), (.int .u8 0), (.int .u8 0), (.int .u8 0), (.int .u8 0), (.int .u8 0), (.int .u8 0), (.int .u8 0), (.slice none 0 0), (.int .i64 0), (.string (⟨#[]⟩ : ByteArray))])) fun b8 =>
 C.chk [⟨8, 32, p30, .agg, v31⟩, ⟨3, 1, (x0.add 0), .slice, v26⟩] <|
 C.call n_spec_l07Find [(.slice r11.a r11.n r11.c), (.agg v31)] [(.int .i64)] fun r32 =>
 C.chk [⟨3, 1, (x0.add 0), .slice, v26⟩] <|
 C.ix v26.a v26.n 35 r32 fun p33 =>
 C.ld .agg 35 p33 fun v34 =>
 C.st 35 (Addr.mk b8 0 none) (.agg v34) <|
 jt [(.pointer (some (Addr.mk b8 0 none)))])]
 ) (
 C.call n_spec_l01Sort [(.slice s5.1.a s5.1.n s5.1.c), (.agg (Array.replicate 32 (.int .u8 0)))] [.slice] fun r60 =>
 C.ret (.slice r60.a r60.n r60.c)
 )
theorem spec_l07Above_eq (C : Comb) (x0 : Addr) (x1 : Int) : fT C Tryz.prog ⟨[(4, [(6, .slice), (7, (.int .i64))]), (8, [(6, .slice), (9, (.int .i64))])], [(19, [(8, .ptr)])], [6], []⟩ n_spec_l07Above [(.pointer (some x0)), (.int .i64 x1)] = spec_l07Above C x0 x1 := by kernel_rfl
theorem spec_l07Above_calls {R : Value → World → Prop} {w : World} (x0 : Addr) (x1 : Int) (h : (spec_l07Above (real Tryz.prog R) x0 x1 : World → Prop) w) :
    Calls Tryz.prog n_spec_l07Above [(.pointer (some x0)), (.int .i64 x1)].toArray w fun e w' => ∃ v, e = .returned v ∧ R v w' := fT_sound mixed ⟨[(4, [(6, .slice), (7, (.int .i64))]), (8, [(6, .slice), (9, (.int .i64))])], [(19, [(8, .ptr)])], [6], []⟩ (by rw [spec_l07Above_eq]; exact h)

def spec_l01Compare (C : Comb) (x0 : Array Value) (x1 : Array Value) : C.St :=
 C.new ty_impl_Key (.agg x0) fun b2 =>
 C.new ty_impl_Key (.agg x1) fun b3 =>
 C.loop (TL [(.int .i64)]) (embL [(.int .i64)]) [(.int .i64 0)] fun s3 ct3 => C.any fun _ =>
 cond (decide (s3 < 32)) (
 C.draw <|
 C.ix (some (Addr.mk b2 0 none)) 32 1 s3 fun p11 =>
 C.ld (.int .u8) 1 p11 fun v12 =>
 C.ix (some (Addr.mk b3 0 none)) 32 1 s3 fun p14 =>
 C.ld (.int .u8) 1 p14 fun v15 =>
 cond (v12 != v15) (
 C.draw <|
 C.ix (some (Addr.mk b2 0 none)) 32 1 s3 fun p18 =>
 C.ld (.int .u8) 1 p18 fun v19 =>
 C.ix (some (Addr.mk b3 0 none)) 32 1 s3 fun p21 =>
 C.ld (.int .u8) 1 p21 fun v22 =>
 cond (decide (v19 < v22)) (
 C.ret (.int .i64 (-1))
 ) (
 C.ret (.int .i64 1)
 )
 ) (
 ct3 [(.int .i64 (IntKind.wrap .i64 (s3 + 1)))]
 )
 ) (
 C.ret (.int .i64 0)
 )
theorem spec_l01Compare_eq (C : Comb) (x0 : Array Value) (x1 : Array Value) : fT C Tryz.prog ⟨[(2, [(5, (.int .i64))])], [], [], []⟩ n_spec_l01Compare [(.agg x0), (.agg x1)] = spec_l01Compare C x0 x1 := by kernel_rfl
theorem spec_l01Compare_calls {R : Value → World → Prop} {w : World} (x0 : Array Value) (x1 : Array Value) (h : (spec_l01Compare (real Tryz.prog R) x0 x1 : World → Prop) w) :
    Calls Tryz.prog n_spec_l01Compare [(.agg x0), (.agg x1)].toArray w fun e w' => ∃ v, e = .returned v ∧ R v w' := fT_sound mixed ⟨[(2, [(5, (.int .i64))])], [], [], []⟩ (by rw [spec_l01Compare_eq]; exact h)

def spec_l07Two (C : Comb) (x0 : Addr) (x1 : Array Value) (x2 : Array Value) : C.St :=
 C.new ty_impl_Key (.agg x1) fun b4 =>
 C.new ty_impl_Key (.agg x2) fun b5 =>
 C.ld .agg 32 (Addr.mk b4 0 none) fun v15 =>
 C.call n_spec_l07At [(.pointer (some x0)), (.agg v15)] [(.int .i64), (.int .i64)] fun r16 =>
 cond (r16.2 != 0) (
 C.ret (.tuple #[(.int .i64 0), (.int .i64 0), (.int .i64 r16.2)])
 ) (
 C.ld .agg 32 (Addr.mk b5 0 none) fun v24 =>
 C.call n_spec_l07At [(.pointer (some x0)), (.agg v24)] [(.int .i64), (.int .i64)] fun r25 =>
 cond (r25.2 != 0) (
 C.ret (.tuple #[(.int .i64 0), (.int .i64 0), (.int .i64 r25.2)])
 ) (
 C.ret (.tuple #[(.int .i64 r16.1), (.int .i64 r25.1), (.int .i64 0)])
 )
 )
theorem spec_l07Two_eq (C : Comb) (x0 : Addr) (x1 : Array Value) (x2 : Array Value) : fT C Tryz.prog ⟨[], [], [], []⟩ n_spec_l07Two [(.pointer (some x0)), (.agg x1), (.agg x2)] = spec_l07Two C x0 x1 x2 := by kernel_rfl
theorem spec_l07Two_calls {R : Value → World → Prop} {w : World} (x0 : Addr) (x1 : Array Value) (x2 : Array Value) (h : (spec_l07Two (real Tryz.prog R) x0 x1 x2 : World → Prop) w) :
    Calls Tryz.prog n_spec_l07Two [(.pointer (some x0)), (.agg x1), (.agg x2)].toArray w fun e w' => ∃ v, e = .returned v ∧ R v w' := fT_sound mixed ⟨[], [], [], []⟩ (by rw [spec_l07Two_eq]; exact h)

def spec_l01Has (C : Comb) (x0 : Sl) (x1 : Array Value) : C.St :=
 C.new ty_impl_Key (.agg x1) fun b3 =>
 C.loop (TL [(.int .i64)]) (embL [(.int .i64)]) [(.int .i64 0)] fun s2 ct2 => C.any fun _ =>
 cond (decide (s2 < (x0.n : Int))) (
 C.draw <|
 C.ix x0.a x0.n 32 s2 fun p14 =>
 C.ld .agg 32 p14 fun v15 =>
 C.ld .agg 32 (Addr.mk b3 0 none) fun v16 =>
 C.pur (eqB .eql ty_impl_Key (.tmp 15) (.tmp 16) (.agg v15) (.agg v16)) .bool fun y17 =>
 cond y17 (
 C.ret (.bool true)
 ) (
 ct2 [(.int .i64 (IntKind.wrap .i64 (s2 + 1)))]
 )
 ) (
 C.ret (.bool false)
 )
theorem spec_l01Has_eq (C : Comb) (x0 : Sl) (x1 : Array Value) : fT C Tryz.prog ⟨[(2, [(5, (.int .i64))])], [], [], []⟩ n_spec_l01Has [(.slice x0.a x0.n x0.c), (.agg x1)] = spec_l01Has C x0 x1 := by kernel_rfl
theorem spec_l01Has_calls {R : Value → World → Prop} {w : World} (x0 : Sl) (x1 : Array Value) (h : (spec_l01Has (real Tryz.prog R) x0 x1 : World → Prop) w) :
    Calls Tryz.prog n_spec_l01Has [(.slice x0.a x0.n x0.c), (.agg x1)].toArray w fun e w' => ∃ v, e = .returned v ∧ R v w' := fT_sound mixed ⟨[(2, [(5, (.int .i64))])], [], [], []⟩ (by rw [spec_l01Has_eq]; exact h)

def laws_szCommitS (C : Comb) (x0 : Sl) (x1 : Int) : C.St :=
 cond (decide ((IntKind.wrap .i64 (x1 - (x0.n : Int))) < 0)) (
 C.ret (.int .i64 (-1))
 ) (
 C.loop (TL [(.int .i64), (.int .i64)]) (embL [(.int .i64), (.int .i64)]) [(.int .i64 (IntKind.wrap .i64 (x1 - (x0.n : Int)))), (.int .i64 0)] fun s1 ct1 => C.any fun _ =>
 cond (decide (s1.2 < (x0.n : Int))) (
 C.ix x0.a x0.n 35 s1.2 fun p20 =>
 C.ld .agg 35 p20 fun v21 =>
 C.call n_laws_szCommit [(.agg v21), (.int .i64 s1.1)] [(.int .i64)] fun r23 =>
 cond (decide (r23 < 0)) (
 C.ret (.int .i64 (-1))
 ) (
 ct1 [(.int .i64 r23), (.int .i64 (IntKind.wrap .i64 (s1.2 + 1)))]
 )
 ) (
 C.ret (.int .i64 s1.1)
 )
 )
theorem laws_szCommitS_eq (C : Comb) (x0 : Sl) (x1 : Int) : fT C Tryz.prog ⟨[(5, [(1, (.int .i64)), (5, (.int .i64))])], [], [], []⟩ n_laws_szCommitS [(.slice x0.a x0.n x0.c), (.int .i64 x1)] = laws_szCommitS C x0 x1 := by kernel_rfl
theorem laws_szCommitS_calls {R : Value → World → Prop} {w : World} (x0 : Sl) (x1 : Int) (h : (laws_szCommitS (real Tryz.prog R) x0 x1 : World → Prop) w) :
    Calls Tryz.prog n_laws_szCommitS [(.slice x0.a x0.n x0.c), (.int .i64 x1)].toArray w fun e w' => ∃ v, e = .returned v ∧ R v w' := fT_sound mixed ⟨[(5, [(1, (.int .i64)), (5, (.int .i64))])], [], [], []⟩ (by rw [laws_szCommitS_eq]; exact h)

def laws_szEntrySS (C : Comb) (x0 : Sl) (x1 : Int) : C.St :=
 cond (decide ((IntKind.wrap .i64 (x1 - (x0.n : Int))) < 0)) (
 C.ret (.int .i64 (-1))
 ) (
 C.loop (TL [(.int .i64), (.int .i64)]) (embL [(.int .i64), (.int .i64)]) [(.int .i64 (IntKind.wrap .i64 (x1 - (x0.n : Int)))), (.int .i64 0)] fun s1 ct1 => C.any fun _ =>
 cond (decide (s1.2 < (x0.n : Int))) (
 C.ix x0.a x0.n 1 s1.2 fun p20 =>
 C.ld .slice 1 p20 fun v21 =>
 C.call n_laws_szEntryS [(.slice v21.a v21.n v21.c), (.int .i64 s1.1)] [(.int .i64)] fun r23 =>
 cond (decide (r23 < 0)) (
 C.ret (.int .i64 (-1))
 ) (
 ct1 [(.int .i64 r23), (.int .i64 (IntKind.wrap .i64 (s1.2 + 1)))]
 )
 ) (
 C.ret (.int .i64 s1.1)
 )
 )
theorem laws_szEntrySS_eq (C : Comb) (x0 : Sl) (x1 : Int) : fT C Tryz.prog ⟨[(5, [(1, (.int .i64)), (5, (.int .i64))])], [], [], []⟩ n_laws_szEntrySS [(.slice x0.a x0.n x0.c), (.int .i64 x1)] = laws_szEntrySS C x0 x1 := by kernel_rfl
theorem laws_szEntrySS_calls {R : Value → World → Prop} {w : World} (x0 : Sl) (x1 : Int) (h : (laws_szEntrySS (real Tryz.prog R) x0 x1 : World → Prop) w) :
    Calls Tryz.prog n_laws_szEntrySS [(.slice x0.a x0.n x0.c), (.int .i64 x1)].toArray w fun e w' => ∃ v, e = .returned v ∧ R v w' := fT_sound mixed ⟨[(5, [(1, (.int .i64)), (5, (.int .i64))])], [], [], []⟩ (by rw [laws_szEntrySS_eq]; exact h)

def spec_l07Changes (C : Comb) (x0 : Addr) (x1 : Int) : C.St :=
 C.sem (Instr.buildSlice ty_sl_impl_Entry 0 #[]) .slice fun y7 =>
 C.join (TL [.slice]) (embL [.slice]) (fun s15 => C.any fun _ =>
 C.ld .slice 1 (x0.add 1) fun v41 =>
 C.ix v41.a v41.n 1 x1 fun p43 =>
 C.ld .slice 1 p43 fun v44 =>
 C.call n_spec_ChangesOf [(.slice s15.a s15.n s15.c), (.slice v44.a v44.n v44.c)] [.slice, (.int .i64)] fun r45 =>
 C.ret (.tuple #[(.slice r45.1.a r45.1.n r45.1.c), (.int .i64 r45.2)])
 ) fun jt =>
 C.ld .slice 1 (x0.add 0) fun v11 =>
 C.ix v11.a v11.n 35 x1 fun p13 =>
 C.ld .slice 1 (p13.add 32) fun v15 =>
 cond (decide ((v15.n : Int) > 0)) (
 C.draw <|
 C.ld .slice 1 (x0.add 1) fun v21 =>
 C.ld .slice 1 (x0.add 0) fun v27 =>
 C.ix v27.a v27.n 35 x1 fun p29 =>
 C.ld .slice 1 (p29.add 32) fun v31 =>
 C.ix v31.a v31.n 32 0 fun p32 =>
 C.ld .agg 32 p32 fun v33 =>
 C.call n_spec_l07Keys [(.pointer (some x0))] [.slice] fun r23 =>
 C.chk [⟨15, 32, p32, .agg, v33⟩, ⟨13, 1, (p29.add 32), .slice, v31⟩, ⟨9, 1, (x0.add 0), .slice, v27⟩, ⟨3, 1, (x0.add 1), .slice, v21⟩] <|
 C.call n_spec_l07Find [(.slice r23.a r23.n r23.c), (.agg v33)] [(.int .i64)] fun r34 =>
 C.chk [⟨13, 1, (p29.add 32), .slice, v31⟩, ⟨9, 1, (x0.add 0), .slice, v27⟩, ⟨3, 1, (x0.add 1), .slice, v21⟩] <|
 C.ix v21.a v21.n 1 r34 fun p35 =>
 C.ld .slice 1 p35 fun v36 =>
 jt [(.slice v36.a v36.n v36.c)]
 ) (
 jt [(.slice y7.a y7.n y7.c)]
 )
theorem spec_l07Changes_eq (C : Comb) (x0 : Addr) (x1 : Int) : fT C Tryz.prog ⟨[], [(51, [(6, .slice)])], [3], []⟩ n_spec_l07Changes [(.pointer (some x0)), (.int .i64 x1)] = spec_l07Changes C x0 x1 := by kernel_rfl
theorem spec_l07Changes_calls {R : Value → World → Prop} {w : World} (x0 : Addr) (x1 : Int) (h : (spec_l07Changes (real Tryz.prog R) x0 x1 : World → Prop) w) :
    Calls Tryz.prog n_spec_l07Changes [(.pointer (some x0)), (.int .i64 x1)].toArray w fun e w' => ∃ v, e = .returned v ∧ R v w' := fT_sound mixed ⟨[], [(51, [(6, .slice)])], [3], []⟩ (by rw [spec_l07Changes_eq]; exact h)

def laws_toCommitS (C : Comb) (x0 : Sl) : C.St :=
 C.sem (Instr.makeSlice ty_sl_impl_Commit (.int .i64 (x0.n : Int)) (.int .i64 (x0.n : Int))) .slice fun y7 =>
 C.loop (TL [(.int .i64)]) (embL [(.int .i64)]) [(.int .i64 0)] fun s2 ct2 => C.any fun _ =>
 cond (decide (s2 < (x0.n : Int))) (
 C.ix x0.a x0.n 35 s2 fun p18 =>
 C.ld .agg 35 p18 fun v19 =>
 C.call n_laws_toCommit [(.agg v19)] [.agg] fun r20 =>
 C.ix y7.a y7.n 35 s2 fun p21 =>
 C.st 35 p21 (.agg r20) <|
 ct2 [(.int .i64 (IntKind.wrap .i64 (s2 + 1)))]
 ) (
 C.ret (.slice y7.a y7.n y7.c)
 )
theorem laws_toCommitS_eq (C : Comb) (x0 : Sl) : fT C Tryz.prog ⟨[(3, [(4, (.int .i64))])], [], [], []⟩ n_laws_toCommitS [(.slice x0.a x0.n x0.c)] = laws_toCommitS C x0 := by kernel_rfl
theorem laws_toCommitS_calls {R : Value → World → Prop} {w : World} (x0 : Sl) (h : (laws_toCommitS (real Tryz.prog R) x0 : World → Prop) w) :
    Calls Tryz.prog n_laws_toCommitS [(.slice x0.a x0.n x0.c)].toArray w fun e w' => ∃ v, e = .returned v ∧ R v w' := fT_sound mixed ⟨[(3, [(4, (.int .i64))])], [], [], []⟩ (by rw [laws_toCommitS_eq]; exact h)

def laws_toEntrySS (C : Comb) (x0 : Sl) : C.St :=
 C.sem (Instr.makeSlice ty_sl_sl_impl_Entry (.int .i64 (x0.n : Int)) (.int .i64 (x0.n : Int))) .slice fun y7 =>
 C.loop (TL [(.int .i64)]) (embL [(.int .i64)]) [(.int .i64 0)] fun s2 ct2 => C.any fun _ =>
 cond (decide (s2 < (x0.n : Int))) (
 C.ix x0.a x0.n 1 s2 fun p18 =>
 C.ld .slice 1 p18 fun v19 =>
 C.call n_laws_toEntryS [(.slice v19.a v19.n v19.c)] [.slice] fun r20 =>
 C.ix y7.a y7.n 1 s2 fun p21 =>
 C.st 1 p21 (.slice r20.a r20.n r20.c) <|
 ct2 [(.int .i64 (IntKind.wrap .i64 (s2 + 1)))]
 ) (
 C.ret (.slice y7.a y7.n y7.c)
 )
theorem laws_toEntrySS_eq (C : Comb) (x0 : Sl) : fT C Tryz.prog ⟨[(3, [(4, (.int .i64))])], [], [], []⟩ n_laws_toEntrySS [(.slice x0.a x0.n x0.c)] = laws_toEntrySS C x0 := by kernel_rfl
theorem laws_toEntrySS_calls {R : Value → World → Prop} {w : World} (x0 : Sl) (h : (laws_toEntrySS (real Tryz.prog R) x0 : World → Prop) w) :
    Calls Tryz.prog n_laws_toEntrySS [(.slice x0.a x0.n x0.c)].toArray w fun e w' => ∃ v, e = .returned v ∧ R v w' := fT_sound mixed ⟨[(3, [(4, (.int .i64))])], [], [], []⟩ (by rw [laws_toEntrySS_eq]; exact h)

def ptr_impl_ledger_changesAt (C : Comb) (x0 : Addr) (x1 : Array Value) : C.St :=
 C.new ty_impl_Key (.agg x1) fun b3 =>
 C.sem (Instr.buildSlice ty_sl_impl_Entry 0 #[]) .slice fun y7 =>
 C.join (TL [.slice]) (embL [.slice]) (fun s8 => C.any fun _ =>
 cond (decide ((s8.n : Int) > 0)) (
 C.ix s8.a s8.n 32 0 fun p24 =>
 C.ld .agg 32 p24 fun v25 =>
 C.call n_ptr_impl_ledger_mapOf [(.pointer (some x0)), (.agg v25)] [.slice] fun r26 =>
 C.ld .agg 32 (Addr.mk b3 0 none) fun v29 =>
 C.call n_ptr_impl_ledger_mapOf [(.pointer (some x0)), (.agg v29)] [.slice] fun r30 =>
 C.call n_impl_changes [(.slice r26.a r26.n r26.c), (.slice r30.a r30.n r30.c)] [.slice] fun r31 =>
 C.ret (.slice r31.a r31.n r31.c)
 ) (
 C.ld .agg 32 (Addr.mk b3 0 none) fun v29 =>
 C.call n_ptr_impl_ledger_mapOf [(.pointer (some x0)), (.agg v29)] [.slice] fun r30 =>
 C.call n_impl_changes [(.slice y7.a y7.n y7.c), (.slice r30.a r30.n r30.c)] [.slice] fun r31 =>
 C.ret (.slice r31.a r31.n r31.c)
 )
 ) fun jt =>
 C.draw <|
 C.ld .slice 1 ((x0.add 0).add 0) fun v12 =>
 C.ld .agg 32 (Addr.mk b3 0 none) fun v14 =>
 C.call n_ptr_impl_ledger_at [(.pointer (some x0)), (.agg v14)] [(.int .i64)] fun r15 =>
 C.chk [⟨4, 1, ((x0.add 0).add 0), .slice, v12⟩] <|
 C.ix v12.a v12.n 35 r15 fun p16 =>
 C.ld .slice 1 (p16.add 32) fun v18 =>
 jt [(.slice v18.a v18.n v18.c)]
theorem ptr_impl_ledger_changesAt_eq (C : Comb) (x0 : Addr) (x1 : Array Value) : fT C Tryz.prog ⟨[], [(7, [(6, .slice)])], [2], []⟩ n_ptr_impl_ledger_changesAt [(.pointer (some x0)), (.agg x1)] = ptr_impl_ledger_changesAt C x0 x1 := by kernel_rfl
theorem ptr_impl_ledger_changesAt_calls {R : Value → World → Prop} {w : World} (x0 : Addr) (x1 : Array Value) (h : (ptr_impl_ledger_changesAt (real Tryz.prog R) x0 x1 : World → Prop) w) :
    Calls Tryz.prog n_ptr_impl_ledger_changesAt [(.pointer (some x0)), (.agg x1)].toArray w fun e w' => ∃ v, e = .returned v ∧ R v w' := fT_sound mixed ⟨[], [(7, [(6, .slice)])], [2], []⟩ (by rw [ptr_impl_ledger_changesAt_eq]; exact h)

def laws_eqCommitS (C : Comb) (x0 : Sl) (x1 : Sl) : C.St :=
 cond ((x0.n : Int) != (x1.n : Int)) (
 C.ret (.bool false)
 ) (
 C.loop (TL [(.int .i64)]) (embL [(.int .i64)]) [(.int .i64 0)] fun s1 ct1 => C.any fun _ =>
 cond (decide (s1 < (x0.n : Int))) (
 C.draw <|
 C.ix x0.a x0.n 35 s1 fun p19 =>
 C.ld .agg 35 p19 fun v20 =>
 C.ix x1.a x1.n 35 s1 fun p23 =>
 C.ld .agg 35 p23 fun v24 =>
 C.call n_laws_eqCommit [(.agg v20), (.agg v24)] [.bool] fun r25 =>
 cond (!r25) (
 C.ret (.bool false)
 ) (
 ct1 [(.int .i64 (IntKind.wrap .i64 (s1 + 1)))]
 )
 ) (
 C.ret (.bool true)
 )
 )
theorem laws_eqCommitS_eq (C : Comb) (x0 : Sl) (x1 : Sl) : fT C Tryz.prog ⟨[(4, [(5, (.int .i64))])], [], [6], []⟩ n_laws_eqCommitS [(.slice x0.a x0.n x0.c), (.slice x1.a x1.n x1.c)] = laws_eqCommitS C x0 x1 := by kernel_rfl
theorem laws_eqCommitS_calls {R : Value → World → Prop} {w : World} (x0 : Sl) (x1 : Sl) (h : (laws_eqCommitS (real Tryz.prog R) x0 x1 : World → Prop) w) :
    Calls Tryz.prog n_laws_eqCommitS [(.slice x0.a x0.n x0.c), (.slice x1.a x1.n x1.c)].toArray w fun e w' => ∃ v, e = .returned v ∧ R v w' := fT_sound mixed ⟨[(4, [(5, (.int .i64))])], [], [6], []⟩ (by rw [laws_eqCommitS_eq]; exact h)

def laws_eqEntrySS (C : Comb) (x0 : Sl) (x1 : Sl) : C.St :=
 cond ((x0.n : Int) != (x1.n : Int)) (
 C.ret (.bool false)
 ) (
 C.loop (TL [(.int .i64)]) (embL [(.int .i64)]) [(.int .i64 0)] fun s1 ct1 => C.any fun _ =>
 cond (decide (s1 < (x0.n : Int))) (
 C.draw <|
 C.ix x0.a x0.n 1 s1 fun p19 =>
 C.ld .slice 1 p19 fun v20 =>
 C.ix x1.a x1.n 1 s1 fun p23 =>
 C.ld .slice 1 p23 fun v24 =>
 C.call n_laws_eqEntryS [(.slice v20.a v20.n v20.c), (.slice v24.a v24.n v24.c)] [.bool] fun r25 =>
 cond (!r25) (
 C.ret (.bool false)
 ) (
 ct1 [(.int .i64 (IntKind.wrap .i64 (s1 + 1)))]
 )
 ) (
 C.ret (.bool true)
 )
 )
theorem laws_eqEntrySS_eq (C : Comb) (x0 : Sl) (x1 : Sl) : fT C Tryz.prog ⟨[(4, [(5, (.int .i64))])], [], [6], []⟩ n_laws_eqEntrySS [(.slice x0.a x0.n x0.c), (.slice x1.a x1.n x1.c)] = laws_eqEntrySS C x0 x1 := by kernel_rfl
theorem laws_eqEntrySS_calls {R : Value → World → Prop} {w : World} (x0 : Sl) (x1 : Sl) (h : (laws_eqEntrySS (real Tryz.prog R) x0 x1 : World → Prop) w) :
    Calls Tryz.prog n_laws_eqEntrySS [(.slice x0.a x0.n x0.c), (.slice x1.a x1.n x1.c)].toArray w fun e w' => ∃ v, e = .returned v ∧ R v w' := fT_sound mixed ⟨[(4, [(5, (.int .i64))])], [], [6], []⟩ (by rw [laws_eqEntrySS_eq]; exact h)

def laws_markCommitS (C : Comb) (x0 : Sl) (x1 : Int) : C.St :=
 C.loop (TL [(.int .i64), (.int .i64)]) (embL [(.int .i64), (.int .i64)]) [(.int .i64 x1), (.int .i64 0)] fun s1 ct1 => C.any fun _ =>
 cond (decide (s1.2 < (x0.n : Int))) (
 C.loop (TL [(.int .i64), (.int .i64)]) (embL [(.int .i64), (.int .i64)]) [(.int .i64 s1.1), (.int .i64 0)] fun s2 ct2 => C.any fun _ =>
 cond (decide (s2.2 < 32)) (
 C.ix x0.a x0.n 35 s1.2 fun p22 =>
 C.ix (some (p22.add 0)) 32 1 s2.2 fun p24 =>
 C.st 1 p24 (.int .u8 (IntKind.wrap .u8 (s2.1))) <|
 ct2 [(.int .i64 (IntKind.wrap .i64 (s2.1 + 1))), (.int .i64 (IntKind.wrap .i64 (s2.2 + 1)))]
 ) (
 C.ix x0.a x0.n 35 s1.2 fun p29 =>
 C.ld .slice 1 (p29.add 32) fun v31 =>
 C.call n_laws_markKeyS [(.slice v31.a v31.n v31.c), (.int .i64 s2.1)] [(.int .i64)] fun r33 =>
 C.ix x0.a x0.n 35 s1.2 fun p37 =>
 C.st 1 (p37.add 33) (.int .i64 r33) <|
 C.call n_laws_markText [(.int .i64 (IntKind.wrap .i64 (r33 + 1)))] [.str] fun r44 =>
 C.ix x0.a x0.n 35 s1.2 fun p45 =>
 C.st 1 (p45.add 34) (.string r44) <|
 ct1 [(.int .i64 (IntKind.wrap .i64 ((IntKind.wrap .i64 (r33 + 1)) + 1))), (.int .i64 (IntKind.wrap .i64 (s1.2 + 1)))]
 )
 ) (
 C.ret (.int .i64 s1.1)
 )
theorem laws_markCommitS_eq (C : Comb) (x0 : Sl) (x1 : Int) : fT C Tryz.prog ⟨[(2, [(1, (.int .i64)), (5, (.int .i64))]), (5, [(1, (.int .i64)), (6, (.int .i64))])], [], [], []⟩ n_laws_markCommitS [(.slice x0.a x0.n x0.c), (.int .i64 x1)] = laws_markCommitS C x0 x1 := by kernel_rfl
theorem laws_markCommitS_calls {R : Value → World → Prop} {w : World} (x0 : Sl) (x1 : Int) (h : (laws_markCommitS (real Tryz.prog R) x0 x1 : World → Prop) w) :
    Calls Tryz.prog n_laws_markCommitS [(.slice x0.a x0.n x0.c), (.int .i64 x1)].toArray w fun e w' => ∃ v, e = .returned v ∧ R v w' := fT_sound mixed ⟨[(2, [(1, (.int .i64)), (5, (.int .i64))]), (5, [(1, (.int .i64)), (6, (.int .i64))])], [], [], []⟩ (by rw [laws_markCommitS_eq]; exact h)

def laws_markEntrySS (C : Comb) (x0 : Sl) (x1 : Int) : C.St :=
 C.loop (TL [(.int .i64), (.int .i64)]) (embL [(.int .i64), (.int .i64)]) [(.int .i64 x1), (.int .i64 0)] fun s1 ct1 => C.any fun _ =>
 cond (decide (s1.2 < (x0.n : Int))) (
 C.ix x0.a x0.n 1 s1.2 fun p14 =>
 C.ld .slice 1 p14 fun v15 =>
 C.call n_laws_markEntryS [(.slice v15.a v15.n v15.c), (.int .i64 s1.1)] [(.int .i64)] fun r17 =>
 ct1 [(.int .i64 r17), (.int .i64 (IntKind.wrap .i64 (s1.2 + 1)))]
 ) (
 C.ret (.int .i64 s1.1)
 )
theorem laws_markEntrySS_eq (C : Comb) (x0 : Sl) (x1 : Int) : fT C Tryz.prog ⟨[(2, [(1, (.int .i64)), (5, (.int .i64))])], [], [], []⟩ n_laws_markEntrySS [(.slice x0.a x0.n x0.c), (.int .i64 x1)] = laws_markEntrySS C x0 x1 := by kernel_rfl
theorem laws_markEntrySS_calls {R : Value → World → Prop} {w : World} (x0 : Sl) (x1 : Int) (h : (laws_markEntrySS (real Tryz.prog R) x0 x1 : World → Prop) w) :
    Calls Tryz.prog n_laws_markEntrySS [(.slice x0.a x0.n x0.c), (.int .i64 x1)].toArray w fun e w' => ∃ v, e = .returned v ∧ R v w' := fT_sound mixed ⟨[(2, [(1, (.int .i64)), (5, (.int .i64))])], [], [], []⟩ (by rw [laws_markEntrySS_eq]; exact h)

def laws_markText (C : Comb) (x0 : Int) : C.St :=
 cond (decide (x0 ≤ 0)) (
 C.ret (.string (⟨#[109, 48]⟩ : ByteArray))
 ) (
 C.loop (TL [(.int .i64), .str]) (embL [(.int .i64), .str]) [(.int .i64 x0), (.string (⟨#[]⟩ : ByteArray))] fun s1 ct1 => C.any fun _ =>
 cond (decide (s1.1 > 0)) (
 C.sem (Instr.buildSlice ty_sl_uint8 1 #[(0, (.int .u8 (IntKind.wrap .u8 ((IntKind.wrap .i64 (48 + (Int.tmod s1.1 10)))))))]) .slice fun y12 =>
 C.sem (convert ty_sl_uint8 ty_string (.slice y12.a y12.n y12.c)) .str fun y13 =>
 C.pur (eqB .add ty_string (.tmp 13) (.tmp 14) (.string y13) (.string s1.2)) .str fun y15 =>
 ct1 [(.int .i64 (IntKind.wrap .i64 (Int.tdiv s1.1 10))), (.string y15)]
 ) (
 C.pur (eqB .add ty_string (.const (.string (⟨#[109]⟩ : ByteArray))) (.tmp 18) (.string (⟨#[109]⟩ : ByteArray)) (.string s1.2)) .str fun y19 =>
 C.ret (.string y19)
 )
 )
theorem laws_markText_eq (C : Comb) (x0 : Int) : fT C Tryz.prog ⟨[(4, [(0, (.int .i64)), (3, .str)])], [], [], []⟩ n_laws_markText [(.int .i64 x0)] = laws_markText C x0 := by kernel_rfl
theorem laws_markText_calls {R : Value → World → Prop} {w : World} (x0 : Int) (h : (laws_markText (real Tryz.prog R) x0 : World → Prop) w) :
    Calls Tryz.prog n_laws_markText [(.int .i64 x0)].toArray w fun e w' => ∃ v, e = .returned v ∧ R v w' := fT_sound mixed ⟨[(4, [(0, (.int .i64)), (3, .str)])], [], [], []⟩ (by rw [laws_markText_eq]; exact h)

def impl_newLedger (C : Comb) (x0 : Array Value) : C.St :=
 C.new ty_impl_Book (.agg x0) fun b1 =>
 C.join (TL []) (embL []) (fun s5 => C.any fun _ =>
 C.ld .agg 2 (Addr.mk b1 0 none) fun v25 =>
 C.pur (Instr.build ty_impl_ledger #[(0, (.agg v25))]) .agg fun y26 =>
 C.new ty_impl_ledger (.agg y26) fun b27 =>
 C.ld .slice 1 ((Addr.mk b1 0 none).add 0) fun v29 =>
 C.loop (TL [(.int .i64)]) (embL [(.int .i64)]) [(.int .i64 0)] fun s10 ct10 => C.any fun _ =>
 cond (decide (s10 < (v29.n : Int))) (
 C.ix v29.a v29.n 35 s10 fun p34 =>
 C.ld .agg 35 p34 fun v35 =>
 C.new ty_impl_Commit (.agg (#[(.int .u8 0), (.int .u8 0), (.int .u8 0), (.int .u8 0), (.int .u8 0), (.int .u8 0), (.int .u8 0), (.int .u8 0), (.int .u8 0), (.int .u8 0), (.int .u8 0), (.int .u8 0), (.int .u8 0), (.int .u8 0), (.int .u8 0), (.int .u8 0), (.int .u8 0), (.int .u8 0), (.int .u8 0), (.int .u8 0), (.int .u8 0), (.int .u8 0), (.int .u8 0), (.int .u8 0), (.int .u8 0), (.int .u8 0), (.int .u8 0), (.int .u8 0), (.int .u8 0), (.int .u8 0), (.int .u8 0), (.int .u8 0), (.slice none 0 0), (.int .i64 0), (.string (⟨#[]⟩ : ByteArray))])) fun b6 =>
 C.st 35 (Addr.mk b6 0 none) (.agg v35) <|
 C.join (TL []) (embL []) (fun s46 => C.any fun _ =>
 C.ld .slice 1 ((Addr.mk b6 0 none).add 32) fun v63 =>
 C.call n_ptr_impl_ledger_number [(.pointer (some (Addr.mk b27 0 none))), (.slice v63.a v63.n v63.c)] [(.int .i64), .bool] fun r64 =>
 C.ld .agg 35 (Addr.mk b6 0 none) fun v67 =>
 C.call n_impl_Commit_key [(.agg v67)] [.agg] fun r68 =>
 C.new ty_impl_Key (.agg (Array.replicate 32 (.int .u8 0))) fun b9 =>
 C.st 32 (Addr.mk b9 0 none) (.agg r68) <|
 C.join (TL []) (embL []) (fun s55 => C.any fun _ =>
 C.draw <|
 C.ld .slice 1 ((Addr.mk b27 0 none).add 2) fun v90 =>
 C.ld .agg 32 (Addr.mk b9 0 none) fun v91 =>
 C.sem (Instr.buildSlice ty_sl_impl_Key 1 #[(0, (.agg v91))]) .slice fun y92 =>
 C.chk [⟨4, 1, ((Addr.mk b27 0 none).add 2), .slice, v90⟩] <|
 C.sem (Builtin.append_ #[ty_sl_impl_Key, ty_sl_impl_Key] ty_sl_impl_Key #[(.slice v90.a v90.n v90.c), (.slice y92.a y92.n y92.c)]) .slice fun y93 =>
 C.st 1 ((Addr.mk b27 0 none).add 2) (.slice y93.a y93.n y93.c) <|
 ct10 [(.int .i64 (IntKind.wrap .i64 (s10 + 1)))]
 ) fun jt =>
 C.ld .agg 32 (Addr.mk b9 0 none) fun v71 =>
 C.call n_ptr_impl_ledger_find [(.pointer (some (Addr.mk b27 0 none))), (.agg v71)] [(.int .i64), .bool] fun r72 =>
 cond (!r64.2) (
 C.ret (.tuple #[(.pointer none), (.bool false)])
 ) (
 cond r72.2 (
 C.ret (.tuple #[(.pointer none), (.bool false)])
 ) (
 C.ld (.int .i64) 1 ((Addr.mk b6 0 none).add 33) fun v83 =>
 cond (r64.1 != v83) (
 C.ret (.tuple #[(.pointer none), (.bool false)])
 ) (
 jt []
 )
 )
 )
 ) fun jt =>
 C.draw <|
 C.ld .agg 35 (Addr.mk b6 0 none) fun v36 =>
 C.call n_impl_ValidCommit [(.agg v36)] [.bool] fun r37 =>
 cond (!r37) (
 C.all [
 (C.ret (.tuple #[(.pointer none), (.bool false)])),
 (C.all [
 (C.ret (.tuple #[(.pointer none), (.bool false)])),
 (C.all [
 (C.ret (.tuple #[(.pointer none), (.bool false)])),
 (C.all [
 (C.ret (.tuple #[(.pointer none), (.bool false)])),
 (C.ret (.tuple #[(.pointer none), (.bool false)]))])])])]
 ) (
 C.ld .slice 1 ((Addr.mk b1 0 none).add 1) fun v41 =>
 C.ix v41.a v41.n 1 s10 fun p43 =>
 C.ld .slice 1 p43 fun v44 =>
 C.call n_impl_ValidEntries [(.slice v44.a v44.n v44.c)] [.bool] fun r45 =>
 cond (!r45) (
 C.all [
 (C.ret (.tuple #[(.pointer none), (.bool false)])),
 (C.all [
 (C.ret (.tuple #[(.pointer none), (.bool false)])),
 (C.all [
 (C.ret (.tuple #[(.pointer none), (.bool false)])),
 (C.all [
 (C.ret (.tuple #[(.pointer none), (.bool false)])),
 (C.ret (.tuple #[(.pointer none), (.bool false)]))])])])]
 ) (
 C.all [
 (C.ld .agg 32 ((Addr.mk b6 0 none).add 0) fun v50 =>
 C.ld .slice 1 ((Addr.mk b1 0 none).add 1) fun v52 =>
 C.ix v52.a v52.n 1 s10 fun p54 =>
 C.ld .slice 1 p54 fun v55 =>
 C.call n_impl_treeOf [(.slice v55.a v55.n v55.c)] [.optr] fun r56 =>
 C.call n_ptr_impl_tree_key [(.pointer r56)] [.agg] fun r57 =>
 C.pur (eqB .neq ty_impl_Key (.tmp 50) (.tmp 57) (.agg v50) (.agg r57)) .bool fun y58 =>
 cond y58 (
 C.ret (.tuple #[(.pointer none), (.bool false)])
 ) (
 jt []
 )),
 (C.ld .slice 1 ((Addr.mk b1 0 none).add 1) fun v52 =>
 C.ix v52.a v52.n 1 s10 fun p54 =>
 C.all [
 (C.ld .agg 32 ((Addr.mk b6 0 none).add 0) fun v50 =>
 C.ld .slice 1 p54 fun v55 =>
 C.call n_impl_treeOf [(.slice v55.a v55.n v55.c)] [.optr] fun r56 =>
 C.call n_ptr_impl_tree_key [(.pointer r56)] [.agg] fun r57 =>
 C.pur (eqB .neq ty_impl_Key (.tmp 50) (.tmp 57) (.agg v50) (.agg r57)) .bool fun y58 =>
 cond y58 (
 C.ret (.tuple #[(.pointer none), (.bool false)])
 ) (
 jt []
 )),
 (C.ld .slice 1 p54 fun v55 =>
 C.all [
 (C.ld .agg 32 ((Addr.mk b6 0 none).add 0) fun v50 =>
 C.call n_impl_treeOf [(.slice v55.a v55.n v55.c)] [.optr] fun r56 =>
 C.call n_ptr_impl_tree_key [(.pointer r56)] [.agg] fun r57 =>
 C.pur (eqB .neq ty_impl_Key (.tmp 50) (.tmp 57) (.agg v50) (.agg r57)) .bool fun y58 =>
 cond y58 (
 C.ret (.tuple #[(.pointer none), (.bool false)])
 ) (
 jt []
 )),
 (C.call n_impl_treeOf [(.slice v55.a v55.n v55.c)] [.optr] fun r56 =>
 C.all [
 (C.ld .agg 32 ((Addr.mk b6 0 none).add 0) fun v50 =>
 C.call n_ptr_impl_tree_key [(.pointer r56)] [.agg] fun r57 =>
 C.pur (eqB .neq ty_impl_Key (.tmp 50) (.tmp 57) (.agg v50) (.agg r57)) .bool fun y58 =>
 cond y58 (
 C.ret (.tuple #[(.pointer none), (.bool false)])
 ) (
 jt []
 )),
 (C.call n_ptr_impl_tree_key [(.pointer r56)] [.agg] fun r57 =>
 C.ld .agg 32 ((Addr.mk b6 0 none).add 0) fun v50 =>
 C.pur (eqB .neq ty_impl_Key (.tmp 50) (.tmp 57) (.agg v50) (.agg r57)) .bool fun y58 =>
 cond y58 (
 C.ret (.tuple #[(.pointer none), (.bool false)])
 ) (
 jt []
 ))])])])]
 )
 )
 ) (
 C.ret (.tuple #[(.pointer (some (Addr.mk b27 0 none))), (.bool true)])
 )
 ) fun jt =>
 C.ld .slice 1 ((Addr.mk b1 0 none).add 0) fun v13 =>
 cond (decide ((v13.n : Int) > 40)) (
 C.ret (.tuple #[(.pointer none), (.bool false)])
 ) (
 C.ld .slice 1 ((Addr.mk b1 0 none).add 1) fun v18 =>
 C.ld .slice 1 ((Addr.mk b1 0 none).add 0) fun v21 =>
 cond ((v18.n : Int) != (v21.n : Int)) (
 C.ret (.tuple #[(.pointer none), (.bool false)])
 ) (
 jt []
 )
 )
theorem impl_newLedger_eq (C : Comb) (x0 : Array Value) : fT C Tryz.prog ⟨[(5, [(31, (.int .i64))])], [(72, []), (177, []), (255, [])], [7, 14], []⟩ n_impl_newLedger [(.agg x0)] = impl_newLedger C x0 := by kernel_rfl
theorem impl_newLedger_calls {R : Value → World → Prop} {w : World} (x0 : Array Value) (h : (impl_newLedger (real Tryz.prog R) x0 : World → Prop) w) :
    Calls Tryz.prog n_impl_newLedger [(.agg x0)].toArray w fun e w' => ∃ v, e = .returned v ∧ R v w' := fT_sound mixed ⟨[(5, [(31, (.int .i64))])], [(72, []), (177, []), (255, [])], [7, 14], []⟩ (by rw [impl_newLedger_eq]; exact h)

def impl_Commit_data (C : Comb) (x0 : Array Value) : C.St :=
 C.new ty_impl_Commit (.agg x0) fun b1 =>
 C.join (TL [.slice]) (embL [.slice]) (fun s6 => C.any fun _ =>
 C.ld .slice 1 ((Addr.mk b1 0 none).add 32) fun v16 =>
 C.loop (TL [.slice, (.int .i64)]) (embL [.slice, (.int .i64)]) [(.slice s6.a s6.n s6.c), (.int .i64 0)] fun s8 ct8 => C.any fun _ =>
 cond (decide (s8.2 < (v16.n : Int))) (
 C.ix v16.a v16.n 32 s8.2 fun p20 =>
 C.ld .agg 32 p20 fun v21 =>
 C.new ty_impl_Key (.agg (Array.replicate 32 (.int .u8 0))) fun b5 =>
 C.st 32 (Addr.mk b5 0 none) (.agg v21) <|
 C.sl (some (Addr.mk b5 0 none)) 32 32 1 none none none fun y23 =>
 C.sem (Builtin.append_ #[ty_sl_uint8, ty_sl_uint8] ty_sl_uint8 #[(.slice s8.1.a s8.1.n s8.1.c), (.slice y23.a y23.n y23.c)]) .slice fun y24 =>
 ct8 [(.slice y24.a y24.n y24.c), (.int .i64 (IntKind.wrap .i64 (s8.2 + 1)))]
 ) (
 C.draw <|
 C.ld (.int .i64) 1 ((Addr.mk b1 0 none).add 33) fun v28 =>
 C.ld .str 1 ((Addr.mk b1 0 none).add 34) fun v33 =>
 C.sem (Instr.buildSlice ty_sl_uint8 1 #[(0, (.int .u8 (IntKind.wrap .u8 (v28))))]) .slice fun y30 =>
 C.chk [⟨7, 1, ((Addr.mk b1 0 none).add 34), .str, v33⟩, ⟨2, 1, ((Addr.mk b1 0 none).add 33), (.int .i64), v28⟩] <|
 C.sem (Builtin.append_ #[ty_sl_uint8, ty_sl_uint8] ty_sl_uint8 #[(.slice s8.1.a s8.1.n s8.1.c), (.slice y30.a y30.n y30.c)]) .slice fun y31 =>
 C.chk [⟨7, 1, ((Addr.mk b1 0 none).add 34), .str, v33⟩, ⟨2, 1, ((Addr.mk b1 0 none).add 33), (.int .i64), v28⟩] <|
 C.sem (Builtin.append_ #[ty_sl_uint8, ty_string] ty_sl_uint8 #[(.slice y31.a y31.n y31.c), (.string v33)]) .slice fun y34 =>
 C.chk [⟨2, 1, ((Addr.mk b1 0 none).add 33), (.int .i64), v28⟩] <|
 C.ret (.slice y34.a y34.n y34.c)
 )
 ) fun jt =>
 C.draw <|
 C.ld .slice 1 ((Addr.mk b1 0 none).add 32) fun v7 =>
 C.sl (some ((Addr.mk b1 0 none).add 0)) 32 32 1 none none none fun y13 =>
 C.sem (Instr.buildSlice ty_sl_uint8 1 #[(0, (.int .u8 (IntKind.wrap .u8 ((IntKind.wrap .i64 ((v7.n : Int) + 1))))))]) .slice fun y11 =>
 C.chk [⟨1, 1, ((Addr.mk b1 0 none).add 32), .slice, v7⟩] <|
 C.sem (Builtin.append_ #[ty_sl_uint8, ty_sl_uint8] ty_sl_uint8 #[(.slice y11.a y11.n y11.c), (.slice y13.a y13.n y13.c)]) .slice fun y14 =>
 C.chk [⟨1, 1, ((Addr.mk b1 0 none).add 32), .slice, v7⟩] <|
 jt [(.slice y14.a y14.n y14.c)]
theorem impl_Commit_data_eq (C : Comb) (x0 : Array Value) : fT C Tryz.prog ⟨[(3, [(3, .slice), (18, (.int .i64))])], [(4, [(3, .slice)])], [1, 7], []⟩ n_impl_Commit_data [(.agg x0)] = impl_Commit_data C x0 := by kernel_rfl
theorem impl_Commit_data_calls {R : Value → World → Prop} {w : World} (x0 : Array Value) (h : (impl_Commit_data (real Tryz.prog R) x0 : World → Prop) w) :
    Calls Tryz.prog n_impl_Commit_data [(.agg x0)].toArray w fun e w' => ∃ v, e = .returned v ∧ R v w' := fT_sound mixed ⟨[(3, [(3, .slice), (18, (.int .i64))])], [(4, [(3, .slice)])], [1, 7], []⟩ (by rw [impl_Commit_data_eq]; exact h)

def impl_Commit_key (C : Comb) (x0 : Array Value) : C.St :=
 C.new ty_impl_Commit (.agg x0) fun b1 =>
 C.new ty_impl_Key (.agg (Array.replicate 32 (.int .u8 0))) fun b2 =>
 C.ld .agg 35 (Addr.mk b1 0 none) fun v3 =>
 C.call n_impl_Commit_data [(.agg v3)] [.slice] fun r4 =>
 C.call n_impl_hash [(.int .u8 7), (.slice r4.a r4.n r4.c)] [.agg] fun r5 =>
 C.st 32 (Addr.mk b2 0 none) (.agg r5) <|
 C.ld .agg 32 (Addr.mk b2 0 none) fun z6 =>
 C.ret (.agg z6)
theorem impl_Commit_key_eq (C : Comb) (x0 : Array Value) : fT C Tryz.prog ⟨[], [], [], []⟩ n_impl_Commit_key [(.agg x0)] = impl_Commit_key C x0 := by kernel_rfl
theorem impl_Commit_key_calls {R : Value → World → Prop} {w : World} (x0 : Array Value) (h : (impl_Commit_key (real Tryz.prog R) x0 : World → Prop) w) :
    Calls Tryz.prog n_impl_Commit_key [(.agg x0)].toArray w fun e w' => ∃ v, e = .returned v ∧ R v w' := fT_sound mixed ⟨[], [], [], []⟩ (by rw [impl_Commit_key_eq]; exact h)

def spec_l01Hash (C : Comb) (x0 : Int) (x1 : Sl) : C.St :=
 C.new ty_impl_Key (.agg (Array.replicate 32 (.int .u8 0))) fun b4 =>
 C.call n_spec_l01Start [(.int .u8 x0)] [.agg] fun r6 =>
 C.call n_spec_l01End [(.agg r6), (.slice x1.a x1.n x1.c), (.int .i64 (x1.n : Int))] [.agg] fun r10 =>
 C.st 32 (Addr.mk b4 0 none) (.agg r10) <|
 C.ld .agg 32 (Addr.mk b4 0 none) fun z4 =>
 C.ret (.agg z4)
theorem spec_l01Hash_eq (C : Comb) (x0 : Int) (x1 : Sl) : fT C Tryz.prog ⟨[], [], [], []⟩ n_spec_l01Hash [(.int .u8 x0), (.slice x1.a x1.n x1.c)] = spec_l01Hash C x0 x1 := by kernel_rfl
theorem spec_l01Hash_calls {R : Value → World → Prop} {w : World} (x0 : Int) (x1 : Sl) (h : (spec_l01Hash (real Tryz.prog R) x0 x1 : World → Prop) w) :
    Calls Tryz.prog n_spec_l01Hash [(.int .u8 x0), (.slice x1.a x1.n x1.c)].toArray w fun e w' => ∃ v, e = .returned v ∧ R v w' := fT_sound mixed ⟨[], [], [], []⟩ (by rw [spec_l01Hash_eq]; exact h)

def ptr_impl_ledger_at (C : Comb) (x0 : Addr) (x1 : Array Value) : C.St :=
 C.new ty_impl_Key (.agg x1) fun b3 =>
 C.ld .agg 32 (Addr.mk b3 0 none) fun v9 =>
 C.call n_ptr_impl_ledger_find [(.pointer (some x0)), (.agg v9)] [(.int .i64), .bool] fun r10 =>
 C.ret (.int .i64 r10.1)
theorem ptr_impl_ledger_at_eq (C : Comb) (x0 : Addr) (x1 : Array Value) : fT C Tryz.prog ⟨[], [], [], []⟩ n_ptr_impl_ledger_at [(.pointer (some x0)), (.agg x1)] = ptr_impl_ledger_at C x0 x1 := by kernel_rfl
theorem ptr_impl_ledger_at_calls {R : Value → World → Prop} {w : World} (x0 : Addr) (x1 : Array Value) (h : (ptr_impl_ledger_at (real Tryz.prog R) x0 x1 : World → Prop) w) :
    Calls Tryz.prog n_ptr_impl_ledger_at [(.pointer (some x0)), (.agg x1)].toArray w fun e w' => ∃ v, e = .returned v ∧ R v w' := fT_sound mixed ⟨[], [], [], []⟩ (by rw [ptr_impl_ledger_at_eq]; exact h)

def impl_within (C : Comb) (x0 : Int) (x1 : Int) (x2 : Int) : C.St :=
 cond (decide (x0 ≥ x1)) (
 C.ret (.bool (decide (x0 ≤ x2)))
 ) (
 C.ret (.bool false)
 )
theorem impl_within_eq (C : Comb) (x0 : Int) (x1 : Int) (x2 : Int) : fT C Tryz.prog ⟨[], [], [], []⟩ n_impl_within [(.int .i64 x0), (.int .i64 x1), (.int .i64 x2)] = impl_within C x0 x1 x2 := by kernel_rfl
theorem impl_within_calls {R : Value → World → Prop} {w : World} (x0 : Int) (x1 : Int) (x2 : Int) (h : (impl_within (real Tryz.prog R) x0 x1 x2 : World → Prop) w) :
    Calls Tryz.prog n_impl_within [(.int .i64 x0), (.int .i64 x1), (.int .i64 x2)].toArray w fun e w' => ∃ v, e = .returned v ∧ R v w' := fT_sound mixed ⟨[], [], [], []⟩ (by rw [impl_within_eq]; exact h)

end Go.Proofs.YtaadgdbegpmlmaaGreat
