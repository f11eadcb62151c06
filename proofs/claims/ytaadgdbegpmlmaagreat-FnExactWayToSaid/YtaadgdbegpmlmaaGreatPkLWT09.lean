/- Printed by a program of this claim's author: each Go function as a Lean function over abstract combinators, and the equation that says that T makes it of the loaded code. -/
import Derived.Test.YtaadgdbegpmlmaaGreatProg
import Derived.Test.YtaadgdbegpmlmaaGreatPkLWT08
namespace Go.Proofs.YtaadgdbegpmlmaaGreat
open Go.Sx
/-- impl.ValidEntries (161) -/
def impl_ValidEntries (C : Comb) (x0 : Sl) : C.St :=
  C.loop (TL [(.int .i64)]) (embL [(.int .i64)]) [(.int .i64 0)] fun s1 ct1 => C.any fun _ =>
  cond (decide (s1 < (x0.n : Int))) (
    C.ix x0.a x0.n 2 s1 fun p10 =>
    C.ld .agg 2 p10 fun v11 =>
    C.new ty_impl_Entry (.agg (#[(.string (⟨#[]⟩ : ByteArray)), (.string (⟨#[]⟩ : ByteArray))])) fun b4 =>
    C.st 2 (Addr.mk b4 0 none) (.agg v11) <|
    C.draw <|
    C.ld .agg 2 (Addr.mk b4 0 none) fun v12 =>
    C.call n_impl_ValidEntry [(.agg v12)] [.bool] fun r13 =>
    cond (!r13) (
      C.all [
        (C.ret (.bool false)),
        (C.ret (.bool false))]
    ) (
      cond (decide (s1 > 0)) (
        C.ix x0.a x0.n 2 (IntKind.wrap .i64 (s1 - 1)) fun p24 =>
        C.all [
          (C.ld .str 1 ((Addr.mk b4 0 none).add 0) fun v20 =>
           C.ld .str 1 (p24.add 0) fun v26 =>
           C.pur (eqB .leq ty_string (.tmp 20) (.tmp 26) (.string v20) (.string v26)) .bool fun y27 =>
           cond y27 (
             C.ret (.bool false)
           ) (
             ct1 [(.int .i64 (IntKind.wrap .i64 (s1 + 1)))]
           )),
          (C.ld .str 1 (p24.add 0) fun v26 =>
           C.ld .str 1 ((Addr.mk b4 0 none).add 0) fun v20 =>
           C.pur (eqB .leq ty_string (.tmp 20) (.tmp 26) (.string v20) (.string v26)) .bool fun y27 =>
           cond y27 (
             C.ret (.bool false)
           ) (
             ct1 [(.int .i64 (IntKind.wrap .i64 (s1 + 1)))]
           ))]
      ) (
        C.all [
          (ct1 [(.int .i64 (IntKind.wrap .i64 (s1 + 1)))]),
          (ct1 [(.int .i64 (IntKind.wrap .i64 (s1 + 1)))])]
      )
    )
  ) (
    C.ret (.bool (decide ((x0.n : Int) ≤ 64)))
  )
theorem impl_ValidEntries_eq (C : Comb) (x0 : Sl) : fT C Tryz.prog { loop := [(2, [(7, (.int .i64))])], join := [], anyOrder := [4], pure := [] } n_impl_ValidEntries [(.slice x0.a x0.n x0.c)] = impl_ValidEntries C x0 := by kernel_rfl
theorem impl_ValidEntries_calls {R : Value → World → Prop} {w : World} (x0 : Sl) (h : (impl_ValidEntries (real Tryz.prog R) x0 : World → Prop) w) :
    Calls Tryz.prog n_impl_ValidEntries [(.slice x0.a x0.n x0.c)].toArray w fun e w' => ∃ v, e = .returned v ∧ R v w' := fT_sound mixed { loop := [(2, [(7, (.int .i64))])], join := [], anyOrder := [4], pure := [] } (by rw [impl_ValidEntries_eq]; exact h)

/-- spec.l07Book (163) -/
def spec_l07Book (C : Comb) (x0 : Addr) : C.St :=
  C.join (TL []) (embL []) (fun s4 => C.any fun _ =>
      C.sem (Instr.buildSlice ty_sl_impl_Key 0 #[]) .slice fun y29 =>
      C.loop (TL [.slice, (.int .i64)]) (embL [.slice, (.int .i64)]) [(.slice y29.a y29.n y29.c), (.int .i64 0)] fun s6 ct6 => C.any fun _ =>
      C.ld .slice 1 (x0.add 0) fun v34 =>
      cond (decide (s6.2 < (v34.n : Int))) (
        C.ld .slice 1 (x0.add 0) fun v42 =>
        C.ix v42.a v42.n 35 s6.2 fun p44 =>
        C.call n_spec_l07Ok [(.pointer (some p44))] [.bool] fun r46 =>
        cond (!r46) (
          C.ret (.bool false)
        ) (
          C.ld .slice 1 (x0.add 1) fun v52 =>
          C.ix v52.a v52.n 1 s6.2 fun p54 =>
          C.ld .slice 1 p54 fun v55 =>
          C.call n_spec_MapKey [(.slice v55.a v55.n v55.c)] [.agg, (.int .i64)] fun r56 =>
          C.new ty_impl_Key (.agg (Array.replicate 32 (.int .u8 0))) fun b6 =>
          C.st 32 (Addr.mk b6 0 none) (.agg r56.1) <|
          C.join (TL []) (embL []) (fun s19 => C.any fun _ =>
              C.loop (TL [(.int .i64)]) (embL [(.int .i64)]) [(.int .i64 0)] fun s20 ct20 => C.any fun _ =>
              C.ld .slice 1 (p44.add 32) fun v73 =>
              cond (decide (s20 < (v73.n : Int))) (
                C.ld .slice 1 (p44.add 32) fun v82 =>
                C.ix v82.a v82.n 32 s20 fun p84 =>
                C.ld .agg 32 p84 fun v85 =>
                C.call n_spec_l01Has [(.slice s6.1.a s6.1.n s6.1.c), (.agg v85)] [.bool] fun r86 =>
                cond (!r86) (
                  C.ret (.bool false)
                ) (
                  ct20 [(.int .i64 (IntKind.wrap .i64 (s20 + 1)))]
                )
              ) (
                C.call n_spec_l07Key [(.pointer (some p44))] [.agg] fun r89 =>
                C.new ty_impl_Key (.agg (Array.replicate 32 (.int .u8 0))) fun b9 =>
                C.st 32 (Addr.mk b9 0 none) (.agg r89) <|
                C.draw <|
                C.ld (.int .i64) 1 (p44.add 33) fun v93 =>
                C.ld .slice 1 (p44.add 32) fun v99 =>
                C.call n_spec_l07Number [(.pointer (some x0)), (.slice s6.1.a s6.1.n s6.1.c), (.slice v99.a v99.n v99.c)] [(.int .i64)] fun r100 =>
                C.chk [⟨3, 1, (p44.add 33), (.int .i64), v93⟩] <|
                cond (v93 != r100) (
                  C.chk [⟨3, 1, (p44.add 33), (.int .i64), v93⟩] <|
                  C.chk [⟨3, 1, (p44.add 33), (.int .i64), v93⟩] <|
                  C.ret (.bool false)
                ) (
                  C.ld .agg 32 (Addr.mk b9 0 none) fun v104 =>
                  C.chk [⟨3, 1, (p44.add 33), (.int .i64), v93⟩] <|
                  C.call n_spec_l01Has [(.slice s6.1.a s6.1.n s6.1.c), (.agg v104)] [.bool] fun r105 =>
                  C.chk [⟨3, 1, (p44.add 33), (.int .i64), v93⟩] <|
                  cond r105 (
                    C.ret (.bool false)
                  ) (
                    C.ld .agg 32 (Addr.mk b9 0 none) fun v108 =>
                    C.sem (Instr.buildSlice ty_sl_impl_Key 1 #[(0, (.agg v108))]) .slice fun y109 =>
                    C.sem (Builtin.append_ #[ty_sl_impl_Key, ty_sl_impl_Key] ty_sl_impl_Key #[(.slice s6.1.a s6.1.n s6.1.c), (.slice y109.a y109.n y109.c)]) .slice fun y110 =>
                    ct6 [(.slice y110.a y110.n y110.c), (.int .i64 (IntKind.wrap .i64 (s6.2 + 1)))]
                  )
                )
              )
            ) fun jt =>
          C.draw <|
          cond (r56.2 != 0) (
            C.ret (.bool false)
          ) (
            C.ld .agg 32 (Addr.mk b6 0 none) fun v62 =>
            C.ld .agg 32 (p44.add 0) fun v66 =>
            C.pur (eqB .neq ty_impl_Key (.tmp 62) (.tmp 66) (.agg v62) (.agg v66)) .bool fun y67 =>
            cond y67 (
              C.ret (.bool false)
            ) (
              jt []
            )
          )
        )
      ) (
        C.ret (.bool true)
      )
    ) fun jt =>
  C.draw <|
  C.ld .slice 1 (x0.add 0) fun v13 =>
  cond (decide ((v13.n : Int) > 40)) (
    C.ret (.bool false)
  ) (
    C.ld .slice 1 (x0.add 1) fun v20 =>
    C.ld .slice 1 (x0.add 0) fun v25 =>
    cond ((v20.n : Int) != (v25.n : Int)) (
      C.ret (.bool false)
    ) (
      jt []
    )
  )
theorem spec_l07Book_eq (C : Comb) (x0 : Addr) : fT C Tryz.prog { loop := [(5, [(3, .slice), (4, (.int .i64))]), (14, [(8, (.int .i64))])], join := [(84, []), (204, [])], anyOrder := [19], pure := [] } n_spec_l07Book [(.pointer (some x0))] = spec_l07Book C x0 := by kernel_rfl
theorem spec_l07Book_calls {R : Value → World → Prop} {w : World} (x0 : Addr) (h : (spec_l07Book (real Tryz.prog R) x0 : World → Prop) w) :
    Calls Tryz.prog n_spec_l07Book [(.pointer (some x0))].toArray w fun e w' => ∃ v, e = .returned v ∧ R v w' := fT_sound mixed { loop := [(5, [(3, .slice), (4, (.int .i64))]), (14, [(8, (.int .i64))])], join := [(84, []), (204, [])], anyOrder := [19], pure := [] } (by rw [spec_l07Book_eq]; exact h)

/-- spec.l07Keys (167) -/
def spec_l07Keys (C : Comb) (x0 : Addr) : C.St :=
  C.sem (Instr.buildSlice ty_sl_impl_Key 0 #[]) .slice fun y5 =>
  C.loop (TL [.slice, (.int .i64)]) (embL [.slice, (.int .i64)]) [(.slice y5.a y5.n y5.c), (.int .i64 0)] fun s2 ct2 => C.any fun _ =>
  C.ld .slice 1 (x0.add 0) fun v10 =>
  cond (decide (s2.2 < (v10.n : Int))) (
    C.ld .slice 1 (x0.add 0) fun v19 =>
    C.ix v19.a v19.n 35 s2.2 fun p21 =>
    C.call n_spec_l07Key [(.pointer (some p21))] [.agg] fun r22 =>
    C.sem (Instr.buildSlice ty_sl_impl_Key 1 #[(0, (.agg r22))]) .slice fun y23 =>
    C.sem (Builtin.append_ #[ty_sl_impl_Key, ty_sl_impl_Key] ty_sl_impl_Key #[(.slice s2.1.a s2.1.n s2.1.c), (.slice y23.a y23.n y23.c)]) .slice fun y24 =>
    ct2 [(.slice y24.a y24.n y24.c), (.int .i64 (IntKind.wrap .i64 (s2.2 + 1)))]
  ) (
    C.ret (.slice s2.1.a s2.1.n s2.1.c)
  )
theorem spec_l07Keys_eq (C : Comb) (x0 : Addr) : fT C Tryz.prog { loop := [(3, [(3, .slice), (4, (.int .i64))])], join := [], anyOrder := [], pure := [] } n_spec_l07Keys [(.pointer (some x0))] = spec_l07Keys C x0 := by kernel_rfl
theorem spec_l07Keys_calls {R : Value → World → Prop} {w : World} (x0 : Addr) (h : (spec_l07Keys (real Tryz.prog R) x0 : World → Prop) w) :
    Calls Tryz.prog n_spec_l07Keys [(.pointer (some x0))].toArray w fun e w' => ∃ v, e = .returned v ∧ R v w' := fT_sound mixed { loop := [(3, [(3, .slice), (4, (.int .i64))])], join := [], anyOrder := [], pure := [] } (by rw [spec_l07Keys_eq]; exact h)

/-- spec.l07Find (169) -/
def spec_l07Find (C : Comb) (x0 : Sl) (x1 : Array Value) : C.St :=
  C.new ty_impl_Key (.agg x1) fun b3 =>
  C.loop (TL [(.int .i64)]) (embL [(.int .i64)]) [(.int .i64 0)] fun s2 ct2 => C.any fun _ =>
  cond (decide (s2 < (x0.n : Int))) (
    C.draw <|
    C.ix x0.a x0.n 32 s2 fun p14 =>
    C.ld .agg 32 p14 fun v15 =>
    C.ld .agg 32 (Addr.mk b3 0 none) fun v16 =>
    C.pur (eqB .eql ty_impl_Key (.tmp 15) (.tmp 16) (.agg v15) (.agg v16)) .bool fun y17 =>
    cond y17 (
      C.ret (.int .i64 s2)
    ) (
      ct2 [(.int .i64 (IntKind.wrap .i64 (s2 + 1)))]
    )
  ) (
    C.ret (.int .i64 (-1))
  )
theorem spec_l07Find_eq (C : Comb) (x0 : Sl) (x1 : Array Value) : fT C Tryz.prog { loop := [(2, [(5, (.int .i64))])], join := [], anyOrder := [], pure := [] } n_spec_l07Find [(.slice x0.a x0.n x0.c), (.agg x1)] = spec_l07Find C x0 x1 := by kernel_rfl
theorem spec_l07Find_calls {R : Value → World → Prop} {w : World} (x0 : Sl) (x1 : Array Value) (h : (spec_l07Find (real Tryz.prog R) x0 x1 : World → Prop) w) :
    Calls Tryz.prog n_spec_l07Find [(.slice x0.a x0.n x0.c), (.agg x1)].toArray w fun e w' => ∃ v, e = .returned v ∧ R v w' := fT_sound mixed { loop := [(2, [(5, (.int .i64))])], join := [], anyOrder := [], pure := [] } (by rw [spec_l07Find_eq]; exact h)

/-- spec.l07Sooner (170) -/
def spec_l07Sooner (C : Comb) (x0 : Sl) (x1 : Sl) : C.St :=
  cond ((x0.n : Int) != (x1.n : Int)) (
    C.ret (.bool (decide ((x0.n : Int) < (x1.n : Int))))
  ) (
    C.loop (TL [(.int .i64)]) (embL [(.int .i64)]) [(.int .i64 0)] fun s1 ct1 => C.any fun _ =>
    cond (decide (s1 < (x0.n : Int))) (
      C.draw <|
      C.ix x0.a x0.n 32 s1 fun p25 =>
      C.ld .agg 32 p25 fun v26 =>
      C.ix x1.a x1.n 32 s1 fun p29 =>
      C.ld .agg 32 p29 fun v30 =>
      C.call n_spec_l01Compare [(.agg v26), (.agg v30)] [(.int .i64)] fun r31 =>
      cond (r31 != 0) (
        C.ret (.bool (decide (r31 < 0)))
      ) (
        ct1 [(.int .i64 (IntKind.wrap .i64 (s1 + 1)))]
      )
    ) (
      C.ret (.bool false)
    )
  )
theorem spec_l07Sooner_eq (C : Comb) (x0 : Sl) (x1 : Sl) : fT C Tryz.prog { loop := [(4, [(5, (.int .i64))])], join := [], anyOrder := [6], pure := [] } n_spec_l07Sooner [(.slice x0.a x0.n x0.c), (.slice x1.a x1.n x1.c)] = spec_l07Sooner C x0 x1 := by kernel_rfl
theorem spec_l07Sooner_calls {R : Value → World → Prop} {w : World} (x0 : Sl) (x1 : Sl) (h : (spec_l07Sooner (real Tryz.prog R) x0 x1 : World → Prop) w) :
    Calls Tryz.prog n_spec_l07Sooner [(.slice x0.a x0.n x0.c), (.slice x1.a x1.n x1.c)].toArray w fun e w' => ∃ v, e = .returned v ∧ R v w' := fT_sound mixed { loop := [(4, [(5, (.int .i64))])], join := [], anyOrder := [6], pure := [] } (by rw [spec_l07Sooner_eq]; exact h)

/-- laws.szEntry (172) -/
def laws_szEntry (C : Comb) (x0 : Array Value) (x1 : Int) : C.St :=
  C.new ty_laws_Entry (.agg x0) fun b2 =>
  C.ld .str 1 ((Addr.mk b2 0 none).add 0) fun v7 =>
  cond (decide ((IntKind.wrap .i64 (x1 - (v7.size : Int))) < 0)) (
    C.ret (.int .i64 (-1))
  ) (
    C.ld .str 1 ((Addr.mk b2 0 none).add 1) fun v14 =>
    cond (decide ((IntKind.wrap .i64 ((IntKind.wrap .i64 (x1 - (v7.size : Int))) - (v14.size : Int))) < 0)) (
      C.ret (.int .i64 (-1))
    ) (
      C.ret (.int .i64 (IntKind.wrap .i64 ((IntKind.wrap .i64 (x1 - (v7.size : Int))) - (v14.size : Int))))
    )
  )
theorem laws_szEntry_eq (C : Comb) (x0 : Array Value) (x1 : Int) : fT C Tryz.prog { loop := [], join := [], anyOrder := [], pure := [] } n_laws_szEntry [(.agg x0), (.int .i64 x1)] = laws_szEntry C x0 x1 := by kernel_rfl
theorem laws_szEntry_calls {R : Value → World → Prop} {w : World} (x0 : Array Value) (x1 : Int) (h : (laws_szEntry (real Tryz.prog R) x0 x1 : World → Prop) w) :
    Calls Tryz.prog n_laws_szEntry [(.agg x0), (.int .i64 x1)].toArray w fun e w' => ∃ v, e = .returned v ∧ R v w' := fT_sound mixed { loop := [], join := [], anyOrder := [], pure := [] } (by rw [laws_szEntry_eq]; exact h)

/-- laws.toEntry (173) -/
def laws_toEntry (C : Comb) (x0 : Array Value) : C.St :=
  C.new ty_laws_Entry (.agg x0) fun b1 =>
  C.new ty_impl_Entry (.agg (#[(.string (⟨#[]⟩ : ByteArray)), (.string (⟨#[]⟩ : ByteArray))])) fun b2 =>
  C.new ty_impl_Entry (.agg (#[(.string (⟨#[]⟩ : ByteArray)), (.string (⟨#[]⟩ : ByteArray))])) fun b3 =>
  C.ld .str 1 ((Addr.mk b1 0 none).add 0) fun v5 =>
  C.st 1 ((Addr.mk b3 0 none).add 0) (.string v5) <|
  C.ld .str 1 ((Addr.mk b1 0 none).add 1) fun v8 =>
  C.st 1 ((Addr.mk b3 0 none).add 1) (.string v8) <|
  C.ld .agg 2 (Addr.mk b3 0 none) fun v10 =>
  C.st 2 (Addr.mk b2 0 none) (.agg v10) <|
  C.ld .agg 2 (Addr.mk b2 0 none) fun z7 =>
  C.ret (.agg z7)
theorem laws_toEntry_eq (C : Comb) (x0 : Array Value) : fT C Tryz.prog { loop := [], join := [], anyOrder := [], pure := [] } n_laws_toEntry [(.agg x0)] = laws_toEntry C x0 := by kernel_rfl
theorem laws_toEntry_calls {R : Value → World → Prop} {w : World} (x0 : Array Value) (h : (laws_toEntry (real Tryz.prog R) x0 : World → Prop) w) :
    Calls Tryz.prog n_laws_toEntry [(.agg x0)].toArray w fun e w' => ∃ v, e = .returned v ∧ R v w' := fT_sound mixed { loop := [], join := [], anyOrder := [], pure := [] } (by rw [laws_toEntry_eq]; exact h)

/-- laws.eqEntry (174) -/
def laws_eqEntry (C : Comb) (x0 : Array Value) (x1 : Array Value) : C.St :=
  C.new ty_impl_Entry (.agg x0) fun b2 =>
  C.new ty_impl_Entry (.agg x1) fun b3 =>
  C.ld .str 1 ((Addr.mk b2 0 none).add 0) fun v6 =>
  C.ld .str 1 ((Addr.mk b3 0 none).add 0) fun v8 =>
  C.pur (eqB .neq ty_string (.tmp 6) (.tmp 8) (.string v6) (.string v8)) .bool fun y9 =>
  cond y9 (
    C.ret (.bool false)
  ) (
    C.ld .str 1 ((Addr.mk b2 0 none).add 1) fun v11 =>
    C.ld .str 1 ((Addr.mk b3 0 none).add 1) fun v13 =>
    C.pur (eqB .neq ty_string (.tmp 11) (.tmp 13) (.string v11) (.string v13)) .bool fun y14 =>
    cond y14 (
      C.ret (.bool false)
    ) (
      C.ret (.bool true)
    )
  )
theorem laws_eqEntry_eq (C : Comb) (x0 : Array Value) (x1 : Array Value) : fT C Tryz.prog { loop := [], join := [], anyOrder := [], pure := [] } n_laws_eqEntry [(.agg x0), (.agg x1)] = laws_eqEntry C x0 x1 := by kernel_rfl
theorem laws_eqEntry_calls {R : Value → World → Prop} {w : World} (x0 : Array Value) (x1 : Array Value) (h : (laws_eqEntry (real Tryz.prog R) x0 x1 : World → Prop) w) :
    Calls Tryz.prog n_laws_eqEntry [(.agg x0), (.agg x1)].toArray w fun e w' => ∃ v, e = .returned v ∧ R v w' := fT_sound mixed { loop := [], join := [], anyOrder := [], pure := [] } (by rw [laws_eqEntry_eq]; exact h)

/-- (*impl.ledger).find (198) -/
def ptr_impl_ledger_find (C : Comb) (x0 : Addr) (x1 : Array Value) : C.St :=
  C.new ty_impl_Key (.agg x1) fun b3 =>
  C.draw <|
  C.ld .slice 1 (x0.add 2) fun v10 =>
  C.ld .agg 32 (Addr.mk b3 0 none) fun v11 =>
  C.call n_slices_Index_sl_impl_Key_impl_Key [(.slice v10.a v10.n v10.c), (.agg v11)] [(.int .i64)] fun r12 =>
  C.ret (.tuple #[(.int .i64 r12), (.bool (decide (r12 ≥ 0)))])
theorem ptr_impl_ledger_find_eq (C : Comb) (x0 : Addr) (x1 : Array Value) : fT C Tryz.prog { loop := [], join := [], anyOrder := [1], pure := [] } n_ptr_impl_ledger_find [(.pointer (some x0)), (.agg x1)] = ptr_impl_ledger_find C x0 x1 := by kernel_rfl
theorem ptr_impl_ledger_find_calls {R : Value → World → Prop} {w : World} (x0 : Addr) (x1 : Array Value) (h : (ptr_impl_ledger_find (real Tryz.prog R) x0 x1 : World → Prop) w) :
    Calls Tryz.prog n_ptr_impl_ledger_find [(.pointer (some x0)), (.agg x1)].toArray w fun e w' => ∃ v, e = .returned v ∧ R v w' := fT_sound mixed { loop := [], join := [], anyOrder := [1], pure := [] } (by rw [ptr_impl_ledger_find_eq]; exact h)

/-- slices.Compact[[]impl.Key,impl.Key] (200) -/
def slices_Compact_sl_impl_Key_impl_Key (C : Comb) (x0 : Sl) : C.St :=
  cond (decide ((x0.n : Int) < 2)) (
    C.ret (.slice x0.a x0.n x0.c)
  ) (
    C.loop (TL [(.int .i64)]) (embL [(.int .i64)]) [(.int .i64 1)] fun s1 ct1 => C.any fun _ =>
    cond (decide (s1 < (x0.n : Int))) (
      C.draw <|
      C.ix x0.a x0.n 32 s1 fun p18 =>
      C.ld .agg 32 p18 fun v19 =>
      C.ix x0.a x0.n 32 (IntKind.wrap .i64 (s1 - 1)) fun p23 =>
      C.ld .agg 32 p23 fun v24 =>
      C.pur (eqB .eql ty_impl_Key (.tmp 19) (.tmp 24) (.agg v19) (.agg v24)) .bool fun y25 =>
      cond y25 (
        C.sl x0.a x0.n x0.c 32 (some s1) none none fun y28 =>
        C.loop (TL [(.int .i64), (.int .i64)]) (embL [(.int .i64), (.int .i64)]) [(.int .i64 s1), (.int .i64 1)] fun s8 ct8 => C.any fun _ =>
        cond (decide (s8.2 < (y28.n : Int))) (
          C.draw <|
          C.ix y28.a y28.n 32 s8.2 fun p37 =>
          C.ld .agg 32 p37 fun v38 =>
          C.ix y28.a y28.n 32 (IntKind.wrap .i64 (s8.2 - 1)) fun p42 =>
          C.ld .agg 32 p42 fun v43 =>
          C.pur (eqB .neq ty_impl_Key (.tmp 38) (.tmp 43) (.agg v38) (.agg v43)) .bool fun y44 =>
          cond y44 (
            C.ix y28.a y28.n 32 s8.2 fun p49 =>
            C.ld .agg 32 p49 fun v50 =>
            C.ix x0.a x0.n 32 s8.1 fun p51 =>
            C.st 32 p51 (.agg v50) <|
            ct8 [(.int .i64 (IntKind.wrap .i64 (s8.1 + 1))), (.int .i64 (IntKind.wrap .i64 (s8.2 + 1)))]
          ) (
            ct8 [(.int .i64 s8.1), (.int .i64 (IntKind.wrap .i64 (s8.2 + 1)))]
          )
        ) (
          C.sl x0.a x0.n x0.c 32 (some s8.1) none none fun y56 =>
          C.sem (Builtin.clear_ #[ty_sl_impl_Key] ty_x #[(.slice y56.a y56.n y56.c)]) .val fun yq18 =>
          C.sl x0.a x0.n x0.c 32 none (some s8.1) none fun y59 =>
          C.ret (.slice y59.a y59.n y59.c)
        )
      ) (
        ct1 [(.int .i64 (IntKind.wrap .i64 (s1 + 1)))]
      )
    ) (
      C.ret (.slice x0.a x0.n x0.c)
    )
  )
theorem slices_Compact_sl_impl_Key_impl_Key_eq (C : Comb) (x0 : Sl) : fT C Tryz.prog { loop := [(4, [(3, (.int .i64))]), (9, [(3, (.int .i64)), (5, (.int .i64))])], join := [], anyOrder := [], pure := [] } n_slices_Compact_sl_impl_Key_impl_Key [(.slice x0.a x0.n x0.c)] = slices_Compact_sl_impl_Key_impl_Key C x0 := by kernel_rfl
theorem slices_Compact_sl_impl_Key_impl_Key_calls {R : Value → World → Prop} {w : World} (x0 : Sl) (h : (slices_Compact_sl_impl_Key_impl_Key (real Tryz.prog R) x0 : World → Prop) w) :
    Calls Tryz.prog n_slices_Compact_sl_impl_Key_impl_Key [(.slice x0.a x0.n x0.c)].toArray w fun e w' => ∃ v, e = .returned v ∧ R v w' := fT_sound mixed { loop := [(4, [(3, (.int .i64))]), (9, [(3, (.int .i64)), (5, (.int .i64))])], join := [], anyOrder := [], pure := [] } (by rw [slices_Compact_sl_impl_Key_impl_Key_eq]; exact h)

/-- slices.Index[[]impl.Key,impl.Key] (203) -/
def slices_Index_sl_impl_Key_impl_Key (C : Comb) (x0 : Sl) (x1 : Array Value) : C.St :=
  C.new ty_impl_Key (.agg x1) fun b3 =>
  C.loop (TL [(.int .i64)]) (embL [(.int .i64)]) [(.int .i64 0)] fun s2 ct2 => C.any fun _ =>
  cond (decide (s2 < (x0.n : Int))) (
    C.draw <|
    C.ld .agg 32 (Addr.mk b3 0 none) fun v11 =>
    C.ix x0.a x0.n 32 s2 fun p14 =>
    C.ld .agg 32 p14 fun v15 =>
    C.pur (eqB .eql ty_impl_Key (.tmp 11) (.tmp 15) (.agg v11) (.agg v15)) .bool fun y16 =>
    cond y16 (
      C.ret (.int .i64 s2)
    ) (
      ct2 [(.int .i64 (IntKind.wrap .i64 (s2 + 1)))]
    )
  ) (
    C.ret (.int .i64 (-1))
  )
theorem slices_Index_sl_impl_Key_impl_Key_eq (C : Comb) (x0 : Sl) (x1 : Array Value) : fT C Tryz.prog { loop := [(2, [(8, (.int .i64))])], join := [], anyOrder := [], pure := [] } n_slices_Index_sl_impl_Key_impl_Key [(.slice x0.a x0.n x0.c), (.agg x1)] = slices_Index_sl_impl_Key_impl_Key C x0 x1 := by kernel_rfl
theorem slices_Index_sl_impl_Key_impl_Key_calls {R : Value → World → Prop} {w : World} (x0 : Sl) (x1 : Array Value) (h : (slices_Index_sl_impl_Key_impl_Key (real Tryz.prog R) x0 x1 : World → Prop) w) :
    Calls Tryz.prog n_slices_Index_sl_impl_Key_impl_Key [(.slice x0.a x0.n x0.c), (.agg x1)].toArray w fun e w' => ∃ v, e = .returned v ∧ R v w' := fT_sound mixed { loop := [(2, [(8, (.int .i64))])], join := [], anyOrder := [], pure := [] } (by rw [slices_Index_sl_impl_Key_impl_Key_eq]; exact h)

/-- spec.l00In (204) -/
def spec_l00In (C : Comb) (x0 : Int) (x1 : Int) (x2 : Int) : C.St :=
  cond (decide (x0 ≥ x1)) (
    C.ret (.bool (decide (x0 ≤ x2)))
  ) (
    C.ret (.bool false)
  )
theorem spec_l00In_eq (C : Comb) (x0 : Int) (x1 : Int) (x2 : Int) : fT C Tryz.prog { loop := [], join := [], anyOrder := [], pure := [] } n_spec_l00In [(.int .i64 x0), (.int .i64 x1), (.int .i64 x2)] = spec_l00In C x0 x1 x2 := by kernel_rfl
theorem spec_l00In_calls {R : Value → World → Prop} {w : World} (x0 : Int) (x1 : Int) (x2 : Int) (h : (spec_l00In (real Tryz.prog R) x0 x1 x2 : World → Prop) w) :
    Calls Tryz.prog n_spec_l00In [(.int .i64 x0), (.int .i64 x1), (.int .i64 x2)].toArray w fun e w' => ∃ v, e = .returned v ∧ R v w' := fT_sound mixed { loop := [], join := [], anyOrder := [], pure := [] } (by rw [spec_l00In_eq]; exact h)

/-- spec.l07Data (205) -/
def spec_l07Data (C : Comb) (x0 : Addr) : C.St :=
  C.join (TL [.slice]) (embL [.slice]) (fun s5 => C.any fun _ =>
      C.loop (TL [.slice, (.int .i64)]) (embL [.slice, (.int .i64)]) [(.slice s5.a s5.n s5.c), (.int .i64 0)] fun s6 ct6 => C.any fun _ =>
      C.ld .slice 1 (x0.add 32) fun v22 =>
      cond (decide (s6.2 < (v22.n : Int))) (
        C.ld .slice 1 (x0.add 32) fun v31 =>
        C.ix v31.a v31.n 32 s6.2 fun p33 =>
        C.ld .agg 32 p33 fun v34 =>
        C.call n_spec_l07Add [(.slice s6.1.a s6.1.n s6.1.c), (.agg v34)] [.slice] fun r35 =>
        ct6 [(.slice r35.a r35.n r35.c), (.int .i64 (IntKind.wrap .i64 (s6.2 + 1)))]
      ) (
        C.draw <|
        C.ld (.int .i64) 1 (x0.add 33) fun v40 =>
        C.ld .str 1 (x0.add 34) fun v47 =>
        C.all [
          (C.sem (Instr.buildSlice ty_sl_uint8 1 #[(0, (.int .u8 (IntKind.wrap .u8 (v40))))]) .slice fun y42 =>
           C.chk [⟨11, 1, (x0.add 34), .str, v47⟩, ⟨4, 1, (x0.add 33), (.int .i64), v40⟩] <|
           C.all [
             (C.sem (Builtin.append_ #[ty_sl_uint8, ty_sl_uint8] ty_sl_uint8 #[(.slice s6.1.a s6.1.n s6.1.c), (.slice y42.a y42.n y42.c)]) .slice fun y43 =>
              C.chk [⟨11, 1, (x0.add 34), .str, v47⟩, ⟨4, 1, (x0.add 33), (.int .i64), v40⟩] <|
              C.sem (convert ty_string ty_sl_uint8 (.string v47)) .slice fun y48 =>
              C.chk [⟨4, 1, (x0.add 33), (.int .i64), v40⟩] <|
              C.sem (Builtin.append_ #[ty_sl_uint8, ty_sl_uint8] ty_sl_uint8 #[(.slice y43.a y43.n y43.c), (.slice y48.a y48.n y48.c)]) .slice fun y49 =>
              C.chk [⟨4, 1, (x0.add 33), (.int .i64), v40⟩] <|
              C.ret (.slice y49.a y49.n y49.c)),
             (C.sem (convert ty_string ty_sl_uint8 (.string v47)) .slice fun y48 =>
              C.chk [⟨4, 1, (x0.add 33), (.int .i64), v40⟩] <|
              C.sem (Builtin.append_ #[ty_sl_uint8, ty_sl_uint8] ty_sl_uint8 #[(.slice s6.1.a s6.1.n s6.1.c), (.slice y42.a y42.n y42.c)]) .slice fun y43 =>
              C.chk [⟨4, 1, (x0.add 33), (.int .i64), v40⟩] <|
              C.sem (Builtin.append_ #[ty_sl_uint8, ty_sl_uint8] ty_sl_uint8 #[(.slice y43.a y43.n y43.c), (.slice y48.a y48.n y48.c)]) .slice fun y49 =>
              C.chk [⟨4, 1, (x0.add 33), (.int .i64), v40⟩] <|
              C.ret (.slice y49.a y49.n y49.c))]),
          (C.sem (convert ty_string ty_sl_uint8 (.string v47)) .slice fun y48 =>
           C.chk [⟨4, 1, (x0.add 33), (.int .i64), v40⟩] <|
           C.sem (Instr.buildSlice ty_sl_uint8 1 #[(0, (.int .u8 (IntKind.wrap .u8 (v40))))]) .slice fun y42 =>
           C.chk [⟨4, 1, (x0.add 33), (.int .i64), v40⟩] <|
           C.sem (Builtin.append_ #[ty_sl_uint8, ty_sl_uint8] ty_sl_uint8 #[(.slice s6.1.a s6.1.n s6.1.c), (.slice y42.a y42.n y42.c)]) .slice fun y43 =>
           C.chk [⟨4, 1, (x0.add 33), (.int .i64), v40⟩] <|
           C.sem (Builtin.append_ #[ty_sl_uint8, ty_sl_uint8] ty_sl_uint8 #[(.slice y43.a y43.n y43.c), (.slice y48.a y48.n y48.c)]) .slice fun y49 =>
           C.chk [⟨4, 1, (x0.add 33), (.int .i64), v40⟩] <|
           C.ret (.slice y49.a y49.n y49.c))]
      )
    ) fun jt =>
  C.draw <|
  C.ld .slice 1 (x0.add 32) fun v8 =>
  C.ld .agg 32 (x0.add 0) fun v16 =>
  C.sem (Instr.buildSlice ty_sl_uint8 1 #[(0, (.int .u8 (IntKind.wrap .u8 ((IntKind.wrap .i64 ((v8.n : Int) + 1))))))]) .slice fun y12 =>
  C.chk [⟨11, 32, (x0.add 0), .agg, v16⟩, ⟨3, 1, (x0.add 32), .slice, v8⟩] <|
  C.call n_spec_l07Add [(.slice y12.a y12.n y12.c), (.agg v16)] [.slice] fun r17 =>
  C.chk [⟨3, 1, (x0.add 32), .slice, v8⟩] <|
  jt [(.slice r17.a r17.n r17.c)]
theorem spec_l07Data_eq (C : Comb) (x0 : Addr) : fT C Tryz.prog { loop := [(3, [(3, .slice), (4, (.int .i64))])], join := [(4, [(3, .slice)])], anyOrder := [1, 6], pure := [] } n_spec_l07Data [(.pointer (some x0))] = spec_l07Data C x0 := by kernel_rfl
theorem spec_l07Data_calls {R : Value → World → Prop} {w : World} (x0 : Addr) (h : (spec_l07Data (real Tryz.prog R) x0 : World → Prop) w) :
    Calls Tryz.prog n_spec_l07Data [(.pointer (some x0))].toArray w fun e w' => ∃ v, e = .returned v ∧ R v w' := fT_sound mixed { loop := [(3, [(3, .slice), (4, (.int .i64))])], join := [(4, [(3, .slice)])], anyOrder := [1, 6], pure := [] } (by rw [spec_l07Data_eq]; exact h)

/-- slices.Compare[[]byte,byte] (210) -/
def slices_Compare_sl_byte_byte (C : Comb) (x0 : Sl) (x1 : Sl) : C.St :=
  C.loop (TL [(.int .i64)]) (embL [(.int .i64)]) [(.int .i64 0)] fun s1 ct1 => C.any fun _ =>
  cond (decide (s1 < (x0.n : Int))) (
    C.ix x0.a x0.n 1 s1 fun p14 =>
    C.ld (.int .u8) 1 p14 fun v15 =>
    cond (decide (s1 ≥ (x1.n : Int))) (
      C.ret (.int .i64 1)
    ) (
      C.ix x1.a x1.n 1 s1 fun p22 =>
      C.ld (.int .u8) 1 p22 fun v23 =>
      C.call n_cmp_Compare_byte [(.int .u8 v15), (.int .u8 v23)] [(.int .i64)] fun r26 =>
      cond (r26 != 0) (
        C.ret (.int .i64 r26)
      ) (
        ct1 [(.int .i64 (IntKind.wrap .i64 (s1 + 1)))]
      )
    )
  ) (
    cond (decide ((x0.n : Int) < (x1.n : Int))) (
      C.ret (.int .i64 (-1))
    ) (
      C.ret (.int .i64 0)
    )
  )
theorem slices_Compare_sl_byte_byte_eq (C : Comb) (x0 : Sl) (x1 : Sl) : fT C Tryz.prog { loop := [(2, [(11, (.int .i64))])], join := [], anyOrder := [], pure := [] } n_slices_Compare_sl_byte_byte [(.slice x0.a x0.n x0.c), (.slice x1.a x1.n x1.c)] = slices_Compare_sl_byte_byte C x0 x1 := by kernel_rfl
theorem slices_Compare_sl_byte_byte_calls {R : Value → World → Prop} {w : World} (x0 : Sl) (x1 : Sl) (h : (slices_Compare_sl_byte_byte (real Tryz.prog R) x0 x1 : World → Prop) w) :
    Calls Tryz.prog n_slices_Compare_sl_byte_byte [(.slice x0.a x0.n x0.c), (.slice x1.a x1.n x1.c)].toArray w fun e w' => ∃ v, e = .returned v ∧ R v w' := fT_sound mixed { loop := [(2, [(11, (.int .i64))])], join := [], anyOrder := [], pure := [] } (by rw [slices_Compare_sl_byte_byte_eq]; exact h)

/-- laws.szCommit (211) -/
def laws_szCommit (C : Comb) (x0 : Array Value) (x1 : Int) : C.St :=
  C.new ty_laws_Commit (.agg x0) fun b2 =>
  C.ld .slice 1 ((Addr.mk b2 0 none).add 32) fun v6 =>
  C.call n_laws_szKeyS [(.slice v6.a v6.n v6.c), (.int .i64 x1)] [(.int .i64)] fun r8 =>
  cond (decide (r8 < 0)) (
    C.ret (.int .i64 (-1))
  ) (
    C.ld .str 1 ((Addr.mk b2 0 none).add 34) fun v13 =>
    cond (decide ((IntKind.wrap .i64 (r8 - (v13.size : Int))) < 0)) (
      C.ret (.int .i64 (-1))
    ) (
      C.ret (.int .i64 (IntKind.wrap .i64 (r8 - (v13.size : Int))))
    )
  )
theorem laws_szCommit_eq (C : Comb) (x0 : Array Value) (x1 : Int) : fT C Tryz.prog { loop := [], join := [], anyOrder := [], pure := [] } n_laws_szCommit [(.agg x0), (.int .i64 x1)] = laws_szCommit C x0 x1 := by kernel_rfl
theorem laws_szCommit_calls {R : Value → World → Prop} {w : World} (x0 : Array Value) (x1 : Int) (h : (laws_szCommit (real Tryz.prog R) x0 x1 : World → Prop) w) :
    Calls Tryz.prog n_laws_szCommit [(.agg x0), (.int .i64 x1)].toArray w fun e w' => ∃ v, e = .returned v ∧ R v w' := fT_sound mixed { loop := [], join := [], anyOrder := [], pure := [] } (by rw [laws_szCommit_eq]; exact h)

/-- laws.toCommit (213) -/
def laws_toCommit (C : Comb) (x0 : Array Value) : C.St :=
  C.new ty_laws_Commit (.agg x0) fun b1 =>
  C.new ty_impl_Commit (.agg (#[(.int .u8 0), (.int .u8 0), (.int .u8 0), (.int .u8 0), (.int .u8 0), (.int .u8 0), (.int .u8 0), (.int .u8 0), (.int .u8 0), (.int .u8 0), (.int .u8 0), (.int .u8 0), (.int .u8 0), (.int .u8 0), (.int .u8 0), (.int .u8 0), (.int .u8 0), (.int .u8 0), (.int .u8 0), (.int .u8 0), (.int .u8 0), (.int .u8 0), (.int .u8 0), (.int .u8 0), (.int .u8 0), (.int .u8 0), (.int .u8 0), (.int .u8 0), (.int .u8 0), (.int .u8 0), (.int .u8 0), (.int .u8 0), (.slice none 0 0), (.int .i64 0), (.string (⟨#[]⟩ : ByteArray))])) fun b2 =>
  C.new ty_impl_Commit (.agg (#[(.int .u8 0), (.int .u8 0), (.int .u8 0), (.int .u8 0), (.int .u8 0), (.int .u8 0), (.int .u8 0), (.int .u8 0), (.int .u8 0), (.int .u8 0), (.int .u8 0), (.int .u8 0), (.int .u8 0), (.int .u8 0), (.int .u8 0), (.int .u8 0), (.int .u8 0), (.int .u8 0), (.int .u8 0), (.int .u8 0), (.int .u8 0), (.int .u8 0), (.int .u8 0), (.int .u8 0), (.int .u8 0), (.int .u8 0), (.int .u8 0), (.int .u8 0), (.int .u8 0), (.int .u8 0), (.int .u8 0), (.int .u8 0), (.slice none 0 0), (.int .i64 0), (.string (⟨#[]⟩ : ByteArray))])) fun b3 =>
  C.ld .agg 32 ((Addr.mk b1 0 none).add 0) fun v5 =>
  C.call n_laws_toKey [(.agg v5)] [.agg] fun r6 =>
  C.st 32 ((Addr.mk b3 0 none).add 0) (.agg r6) <|
  C.ld .slice 1 ((Addr.mk b1 0 none).add 32) fun v9 =>
  C.call n_laws_toKeyS [(.slice v9.a v9.n v9.c)] [.slice] fun r10 =>
  C.st 1 ((Addr.mk b3 0 none).add 32) (.slice r10.a r10.n r10.c) <|
  C.ld (.int .i64) 1 ((Addr.mk b1 0 none).add 33) fun v13 =>
  C.st 1 ((Addr.mk b3 0 none).add 33) (.int .i64 v13) <|
  C.ld .str 1 ((Addr.mk b1 0 none).add 34) fun v16 =>
  C.st 1 ((Addr.mk b3 0 none).add 34) (.string v16) <|
  C.ld .agg 35 (Addr.mk b3 0 none) fun v18 =>
  C.st 35 (Addr.mk b2 0 none) (.agg v18) <|
  C.ld .agg 35 (Addr.mk b2 0 none) fun z11 =>
  C.ret (.agg z11)
theorem laws_toCommit_eq (C : Comb) (x0 : Array Value) : fT C Tryz.prog { loop := [], join := [], anyOrder := [], pure := [] } n_laws_toCommit [(.agg x0)] = laws_toCommit C x0 := by kernel_rfl
theorem laws_toCommit_calls {R : Value → World → Prop} {w : World} (x0 : Array Value) (h : (laws_toCommit (real Tryz.prog R) x0 : World → Prop) w) :
    Calls Tryz.prog n_laws_toCommit [(.agg x0)].toArray w fun e w' => ∃ v, e = .returned v ∧ R v w' := fT_sound mixed { loop := [], join := [], anyOrder := [], pure := [] } (by rw [laws_toCommit_eq]; exact h)

/-- laws.eqCommit (215) -/
def laws_eqCommit (C : Comb) (x0 : Array Value) (x1 : Array Value) : C.St :=
  C.new ty_impl_Commit (.agg x0) fun b2 =>
  C.new ty_impl_Commit (.agg x1) fun b3 =>
  C.ld .agg 32 ((Addr.mk b2 0 none).add 0) fun v6 =>
  C.ld .agg 32 ((Addr.mk b3 0 none).add 0) fun v8 =>
  C.call n_laws_eqKey [(.agg v6), (.agg v8)] [.bool] fun r9 =>
  cond (!r9) (
    C.ret (.bool false)
  ) (
    C.ld .slice 1 ((Addr.mk b2 0 none).add 32) fun v12 =>
    C.ld .slice 1 ((Addr.mk b3 0 none).add 32) fun v14 =>
    C.call n_laws_eqKeyS [(.slice v12.a v12.n v12.c), (.slice v14.a v14.n v14.c)] [.bool] fun r15 =>
    cond (!r15) (
      C.ret (.bool false)
    ) (
      C.ld (.int .i64) 1 ((Addr.mk b2 0 none).add 33) fun v18 =>
      C.ld (.int .i64) 1 ((Addr.mk b3 0 none).add 33) fun v20 =>
      cond (v18 != v20) (
        C.ret (.bool false)
      ) (
        C.ld .str 1 ((Addr.mk b2 0 none).add 34) fun v23 =>
        C.ld .str 1 ((Addr.mk b3 0 none).add 34) fun v25 =>
        C.pur (eqB .neq ty_string (.tmp 23) (.tmp 25) (.string v23) (.string v25)) .bool fun y26 =>
        cond y26 (
          C.ret (.bool false)
        ) (
          C.ret (.bool true)
        )
      )
    )
  )
theorem laws_eqCommit_eq (C : Comb) (x0 : Array Value) (x1 : Array Value) : fT C Tryz.prog { loop := [], join := [], anyOrder := [], pure := [] } n_laws_eqCommit [(.agg x0), (.agg x1)] = laws_eqCommit C x0 x1 := by kernel_rfl
theorem laws_eqCommit_calls {R : Value → World → Prop} {w : World} (x0 : Array Value) (x1 : Array Value) (h : (laws_eqCommit (real Tryz.prog R) x0 x1 : World → Prop) w) :
    Calls Tryz.prog n_laws_eqCommit [(.agg x0), (.agg x1)].toArray w fun e w' => ∃ v, e = .returned v ∧ R v w' := fT_sound mixed { loop := [], join := [], anyOrder := [], pure := [] } (by rw [laws_eqCommit_eq]; exact h)

/-- impl.treeOf (240) -/
def impl_treeOf (C : Comb) (x0 : Sl) : C.St :=
  C.sem (Instr.buildSlice ty_sl_impl_Key 0 #[]) .slice fun y6 =>
  C.loop (TL [.slice, (.int .i64)]) (embL [.slice, (.int .i64)]) [(.slice y6.a y6.n y6.c), (.int .i64 0)] fun s2 ct2 => C.any fun _ =>
  cond (decide (s2.2 < (x0.n : Int))) (
    C.ix x0.a x0.n 2 s2.2 fun p11 =>
    C.ld .agg 2 p11 fun v12 =>
    C.new ty_impl_Entry (.agg (#[(.string (⟨#[]⟩ : ByteArray)), (.string (⟨#[]⟩ : ByteArray))])) fun b5 =>
    C.st 2 (Addr.mk b5 0 none) (.agg v12) <|
    C.ld .str 1 ((Addr.mk b5 0 none).add 0) fun v15 =>
    C.sem (convert ty_string ty_sl_uint8 (.string v15)) .slice fun y16 =>
    C.call n_impl_hash [(.int .u8 4), (.slice y16.a y16.n y16.c)] [.agg] fun r17 =>
    C.sem (Instr.buildSlice ty_sl_impl_Key 1 #[(0, (.agg r17))]) .slice fun y18 =>
    C.sem (Builtin.append_ #[ty_sl_impl_Key, ty_sl_impl_Key] ty_sl_impl_Key #[(.slice s2.1.a s2.1.n s2.1.c), (.slice y18.a y18.n y18.c)]) .slice fun y19 =>
    ct2 [(.slice y19.a y19.n y19.c), (.int .i64 (IntKind.wrap .i64 (s2.2 + 1)))]
  ) (
    C.call n_impl_grow [(.slice x0.a x0.n x0.c), (.slice s2.1.a s2.1.n s2.1.c)] [.optr] fun r23 =>
    C.ret (.pointer r23)
  )
theorem impl_treeOf_eq (C : Comb) (x0 : Sl) : fT C Tryz.prog { loop := [(3, [(3, .slice), (9, (.int .i64))])], join := [], anyOrder := [], pure := [] } n_impl_treeOf [(.slice x0.a x0.n x0.c)] = impl_treeOf C x0 := by kernel_rfl
theorem impl_treeOf_calls {R : Value → World → Prop} {w : World} (x0 : Sl) (h : (impl_treeOf (real Tryz.prog R) x0 : World → Prop) w) :
    Calls Tryz.prog n_impl_treeOf [(.slice x0.a x0.n x0.c)].toArray w fun e w' => ∃ v, e = .returned v ∧ R v w' := fT_sound mixed { loop := [(3, [(3, .slice), (9, (.int .i64))])], join := [], anyOrder := [], pure := [] } (by rw [impl_treeOf_eq]; exact h)

/-- (*impl.tree).key (241) -/
def ptr_impl_tree_key (C : Comb) (x0 : Option Addr) : C.St :=
  C.new ty_impl_Key (.agg (Array.replicate 32 (.int .u8 0))) fun b2 =>
  C.pur (eqB .eql ty_ptr_impl_tree (.tmp 3) (.const (.pointer none)) (.pointer x0) (.pointer none)) .bool fun y4 =>
  cond y4 (
    C.call n_impl_EmptyMapKey [] [.agg] fun r5 =>
    C.st 32 (Addr.mk b2 0 none) (.agg r5) <|
    C.ld .agg 32 (Addr.mk b2 0 none) fun z4 =>
    C.ret (.agg z4)
  ) (
    dpT C x0 fun a5 =>
    C.ld .agg 66 (a5.add 0) fun v9 =>
    C.call n_impl_MapNode_key [(.agg v9)] [.agg] fun r10 =>
    C.st 32 (Addr.mk b2 0 none) (.agg r10) <|
    C.ld .agg 32 (Addr.mk b2 0 none) fun z8 =>
    C.ret (.agg z8)
  )
theorem ptr_impl_tree_key_eq (C : Comb) (x0 : Option Addr) : fT C Tryz.prog { loop := [], join := [], anyOrder := [], pure := [] } n_ptr_impl_tree_key [(.pointer x0)] = ptr_impl_tree_key C x0 := by kernel_rfl
theorem ptr_impl_tree_key_calls {R : Value → World → Prop} {w : World} (x0 : Option Addr) (h : (ptr_impl_tree_key (real Tryz.prog R) x0 : World → Prop) w) :
    Calls Tryz.prog n_ptr_impl_tree_key [(.pointer x0)].toArray w fun e w' => ∃ v, e = .returned v ∧ R v w' := fT_sound mixed { loop := [], join := [], anyOrder := [], pure := [] } (by rw [ptr_impl_tree_key_eq]; exact h)

/-- (*impl.ledger).number (242) -/
def ptr_impl_ledger_number (C : Comb) (x0 : Addr) (x1 : Sl) : C.St :=
  C.loop (TL [(.int .i64), (.int .i64)]) (embL [(.int .i64), (.int .i64)]) [(.int .i64 0), (.int .i64 0)] fun s1 ct1 => C.any fun _ =>
  cond (decide (s1.2 < (x1.n : Int))) (
    C.ix x1.a x1.n 32 s1.2 fun p15 =>
    C.ld .agg 32 p15 fun v16 =>
    C.new ty_impl_Key (.agg (Array.replicate 32 (.int .u8 0))) fun b8 =>
    C.st 32 (Addr.mk b8 0 none) (.agg v16) <|
    C.ld .agg 32 (Addr.mk b8 0 none) fun v19 =>
    C.call n_ptr_impl_ledger_find [(.pointer (some x0)), (.agg v19)] [(.int .i64), .bool] fun r20 =>
    cond (!r20.2) (
      C.ret (.tuple #[(.int .i64 0), (.bool false)])
    ) (
      C.ld .slice 1 ((x0.add 0).add 0) fun v30 =>
      C.ix v30.a v30.n 35 r20.1 fun p32 =>
      C.ld (.int .i64) 1 (p32.add 33) fun v34 =>
      C.sem (Builtin.max_ #[ty_int64, ty_int64] ty_int64 #[(.int .i64 s1.1), (.int .i64 (IntKind.wrap .i64 (v34 + 1)))]) (.int .i64) fun y36 =>
      ct1 [(.int .i64 y36), (.int .i64 (IntKind.wrap .i64 (s1.2 + 1)))]
    )
  ) (
    C.ret (.tuple #[(.int .i64 s1.1), (.bool true)])
  )
theorem ptr_impl_ledger_number_eq (C : Comb) (x0 : Addr) (x1 : Sl) : fT C Tryz.prog { loop := [(3, [(6, (.int .i64)), (13, (.int .i64))])], join := [], anyOrder := [], pure := [] } n_ptr_impl_ledger_number [(.pointer (some x0)), (.slice x1.a x1.n x1.c)] = ptr_impl_ledger_number C x0 x1 := by kernel_rfl
theorem ptr_impl_ledger_number_calls {R : Value → World → Prop} {w : World} (x0 : Addr) (x1 : Sl) (h : (ptr_impl_ledger_number (real Tryz.prog R) x0 x1 : World → Prop) w) :
    Calls Tryz.prog n_ptr_impl_ledger_number [(.pointer (some x0)), (.slice x1.a x1.n x1.c)].toArray w fun e w' => ∃ v, e = .returned v ∧ R v w' := fT_sound mixed { loop := [(3, [(6, (.int .i64)), (13, (.int .i64))])], join := [], anyOrder := [], pure := [] } (by rw [ptr_impl_ledger_number_eq]; exact h)

/-- impl.hash (245) -/
def impl_hash (C : Comb) (x0 : Int) (x1 : Sl) : C.St :=
  C.new ty_impl_Key (.agg (Array.replicate 32 (.int .u8 0))) fun b4 =>
  C.call n_impl_size_byte [(.slice x1.a x1.n x1.c)] [(.int .i64)] fun r10 =>
  C.call n_impl_padding [(.int .i64 r10)] [.slice] fun r11 =>
  C.sem (Instr.buildSlice ty_sl_sl_uint8 2 #[(0, (.slice x1.a x1.n x1.c)), (1, (.slice r11.a r11.n r11.c))]) .slice fun y12 =>
  C.call n_slices_Concat_sl_byte_byte [(.slice y12.a y12.n y12.c)] [.slice] fun r13 =>
  C.call n_impl_blocks [(.slice r13.a r13.n r13.c)] [.slice, .slice] fun r14 =>
  C.call n_impl_StartState [(.int .u8 x0)] [.agg] fun r18 =>
  C.call n_impl_mixed [(.agg r18), (.slice r14.1.a r14.1.n r14.1.c)] [.agg] fun r20 =>
  C.call n_impl_keyOf [(.agg r20)] [.agg] fun r21 =>
  C.st 32 (Addr.mk b4 0 none) (.agg r21) <|
  C.ld .agg 32 (Addr.mk b4 0 none) fun z10 =>
  C.ret (.agg z10)
theorem impl_hash_eq (C : Comb) (x0 : Int) (x1 : Sl) : fT C Tryz.prog { loop := [], join := [], anyOrder := [], pure := [] } n_impl_hash [(.int .u8 x0), (.slice x1.a x1.n x1.c)] = impl_hash C x0 x1 := by kernel_rfl
theorem impl_hash_calls {R : Value → World → Prop} {w : World} (x0 : Int) (x1 : Sl) (h : (impl_hash (real Tryz.prog R) x0 x1 : World → Prop) w) :
    Calls Tryz.prog n_impl_hash [(.int .u8 x0), (.slice x1.a x1.n x1.c)].toArray w fun e w' => ∃ v, e = .returned v ∧ R v w' := fT_sound mixed { loop := [], join := [], anyOrder := [], pure := [] } (by rw [impl_hash_eq]; exact h)

/-- spec.l01End (246) -/
def spec_l01End (C : Comb) (x0 : Array Value) (x1 : Sl) (x2 : Int) : C.St :=
  C.new ty_arr8_uint32 (.agg x0) fun b3 =>
  C.new ty_impl_Key (.agg (Array.replicate 32 (.int .u8 0))) fun b6 =>
  C.call n_spec_l01Padded [(.slice x1.a x1.n x1.c), (.int .i64 x2)] [.slice] fun r13 =>
  C.loop (TL [(.int .i64)]) (embL [(.int .i64)]) [(.int .i64 0)] fun s4 ct4 => C.any fun _ =>
  cond (decide (s4 < (r13.n : Int))) (
    C.draw <|
    C.ld .agg 8 (Addr.mk b3 0 none) fun v20 =>
    C.call n_spec_l01Block [(.slice r13.a r13.n r13.c), (.int .i64 s4)] [.agg] fun r23 =>
    C.chk [⟨0, 8, (Addr.mk b3 0 none), .agg, v20⟩] <|
    C.call n_spec_l01Mix [(.agg v20), (.agg r23)] [.agg] fun r24 =>
    C.st 8 (Addr.mk b3 0 none) (.agg r24) <|
    ct4 [(.int .i64 (IntKind.wrap .i64 (s4 + 32)))]
  ) (
    C.new ty_impl_Key (.agg (Array.replicate 32 (.int .u8 0))) fun b9 =>
    C.st 32 (Addr.mk b9 0 none) (.agg (Array.replicate 32 (.int .u8 0))) <|
    C.loop (TL [(.int .i64)]) (embL [(.int .i64)]) [(.int .i64 0)] fun s9 ct9 => C.any fun _ =>
    cond (decide (s9 < 32)) (
      C.ix (some (Addr.mk b3 0 none)) 8 1 (IntKind.wrap .i64 (Int.tdiv s9 4)) fun p33 =>
      C.ld (.int .u32) 1 p33 fun v34 =>
      C.pur (eqB .shr ty_uint32 (.tmp 34) (.tmp 38) (.int .u32 v34) (.int .u64 (IntKind.wrap .u64 ((IntKind.wrap .i64 (8 * (Int.tmod s9 4))))))) (.int .u32) fun y39 =>
      C.ix (some (Addr.mk b9 0 none)) 32 1 s9 fun p41 =>
      C.st 1 p41 (.int .u8 (IntKind.wrap .u8 (y39))) <|
      ct9 [(.int .i64 (IntKind.wrap .i64 (s9 + 1)))]
    ) (
      C.ld .agg 32 (Addr.mk b9 0 none) fun v42 =>
      C.st 32 (Addr.mk b6 0 none) (.agg v42) <|
      C.ld .agg 32 (Addr.mk b6 0 none) fun z15 =>
      C.ret (.agg z15)
    )
  )
theorem spec_l01End_eq (C : Comb) (x0 : Array Value) (x1 : Sl) (x2 : Int) : fT C Tryz.prog { loop := [(3, [(8, (.int .i64))]), (8, [(10, (.int .i64))])], join := [], anyOrder := [5], pure := [] } n_spec_l01End [(.agg x0), (.slice x1.a x1.n x1.c), (.int .i64 x2)] = spec_l01End C x0 x1 x2 := by kernel_rfl
theorem spec_l01End_calls {R : Value → World → Prop} {w : World} (x0 : Array Value) (x1 : Sl) (x2 : Int) (h : (spec_l01End (real Tryz.prog R) x0 x1 x2 : World → Prop) w) :
    Calls Tryz.prog n_spec_l01End [(.agg x0), (.slice x1.a x1.n x1.c), (.int .i64 x2)].toArray w fun e w' => ∃ v, e = .returned v ∧ R v w' := fT_sound mixed { loop := [(3, [(8, (.int .i64))]), (8, [(10, (.int .i64))])], join := [], anyOrder := [5], pure := [] } (by rw [spec_l01End_eq]; exact h)

/-- spec.l01Start (247) -/
def spec_l01Start (C : Comb) (x0 : Int) : C.St :=
  C.new ty_arr8_uint32 (.agg (Array.replicate 8 (.int .u32 0))) fun b2 =>
  C.new ty_arr8_uint32 (.agg (Array.replicate 8 (.int .u32 0))) fun b3 =>
  C.st 8 (Addr.mk b3 0 none) (.agg (Array.replicate 8 (.int .u32 0))) <|
  C.loop (TL [(.int .i64)]) (embL [(.int .i64)]) [(.int .i64 0)] fun s3 ct3 => C.any fun _ =>
  cond (decide (s3 < 8)) (
    C.ix (some (Addr.mk b3 0 none)) 8 1 s3 fun p18 =>
    C.st 1 p18 (.int .u32 (IntKind.wrap .u32 ((IntKind.wrap .u32 (16777619 * (IntKind.wrap .u32 ((IntKind.wrap .i64 (s3 + 1)))))) + (IntKind.wrap .u32 (x0))))) <|
    ct3 [(.int .i64 (IntKind.wrap .i64 (s3 + 1)))]
  ) (
    C.ld .agg 8 (Addr.mk b3 0 none) fun v19 =>
    C.st 8 (Addr.mk b2 0 none) (.agg v19) <|
    C.ld .agg 8 (Addr.mk b2 0 none) fun z6 =>
    C.ret (.agg z6)
  )
theorem spec_l01Start_eq (C : Comb) (x0 : Int) : fT C Tryz.prog { loop := [(3, [(4, (.int .i64))])], join := [], anyOrder := [], pure := [] } n_spec_l01Start [(.int .u8 x0)] = spec_l01Start C x0 := by kernel_rfl
theorem spec_l01Start_calls {R : Value → World → Prop} {w : World} (x0 : Int) (h : (spec_l01Start (real Tryz.prog R) x0 : World → Prop) w) :
    Calls Tryz.prog n_spec_l01Start [(.int .u8 x0)].toArray w fun e w' => ∃ v, e = .returned v ∧ R v w' := fT_sound mixed { loop := [(3, [(4, (.int .i64))])], join := [], anyOrder := [], pure := [] } (by rw [spec_l01Start_eq]; exact h)

/-- impl.ValidEntry (248) -/
def impl_ValidEntry (C : Comb) (x0 : Array Value) : C.St :=
  C.new ty_impl_Entry (.agg x0) fun b1 =>
  C.ld .str 1 ((Addr.mk b1 0 none).add 0) fun v4 =>
  C.call n_impl_isName [(.string v4)] [.bool] fun r5 =>
  cond r5 (
    C.ld .str 1 ((Addr.mk b1 0 none).add 1) fun v8 =>
    C.ret (.bool (decide ((v8.size : Int) ≤ 64)))
  ) (
    C.ret (.bool false)
  )
theorem impl_ValidEntry_eq (C : Comb) (x0 : Array Value) : fT C Tryz.prog { loop := [], join := [], anyOrder := [], pure := [] } n_impl_ValidEntry [(.agg x0)] = impl_ValidEntry C x0 := by kernel_rfl
theorem impl_ValidEntry_calls {R : Value → World → Prop} {w : World} (x0 : Array Value) (h : (impl_ValidEntry (real Tryz.prog R) x0 : World → Prop) w) :
    Calls Tryz.prog n_impl_ValidEntry [(.agg x0)].toArray w fun e w' => ∃ v, e = .returned v ∧ R v w' := fT_sound mixed { loop := [], join := [], anyOrder := [], pure := [] } (by rw [impl_ValidEntry_eq]; exact h)

/-- spec.MapKey (250) -/
def spec_MapKey (C : Comb) (x0 : Sl) : C.St :=
  C.new ty_impl_Key (.agg (Array.replicate 32 (.int .u8 0))) fun b2 =>
  C.call n_spec_l04Ok [(.slice x0.a x0.n x0.c)] [.bool] fun r7 =>
  cond (!r7) (
    C.st 32 (Addr.mk b2 0 none) (.agg (Array.replicate 32 (.int .u8 0))) <|
    C.ld .agg 32 (Addr.mk b2 0 none) fun z3 =>
    C.ret (.tuple #[(.agg z3), (.int .i64 1)])
  ) (
    C.call n_spec_l04Nodes [(.slice x0.a x0.n x0.c)] [.slice, .agg] fun r12 =>
    C.new ty_impl_Key (.agg (Array.replicate 32 (.int .u8 0))) fun b5 =>
    C.st 32 (Addr.mk b5 0 none) (.agg r12.2) <|
    C.ld .agg 32 (Addr.mk b5 0 none) fun v15 =>
    C.st 32 (Addr.mk b2 0 none) (.agg v15) <|
    C.ld .agg 32 (Addr.mk b2 0 none) fun z7 =>
    C.ret (.tuple #[(.agg z7), (.int .i64 0)])
  )
theorem spec_MapKey_eq (C : Comb) (x0 : Sl) : fT C Tryz.prog { loop := [], join := [], anyOrder := [], pure := [] } n_spec_MapKey [(.slice x0.a x0.n x0.c)] = spec_MapKey C x0 := by kernel_rfl
theorem spec_MapKey_calls {R : Value → World → Prop} {w : World} (x0 : Sl) (h : (spec_MapKey (real Tryz.prog R) x0 : World → Prop) w) :
    Calls Tryz.prog n_spec_MapKey [(.slice x0.a x0.n x0.c)].toArray w fun e w' => ∃ v, e = .returned v ∧ R v w' := fT_sound mixed { loop := [], join := [], anyOrder := [], pure := [] } (by rw [spec_MapKey_eq]; exact h)

/-- spec.l07Number (251) -/
def spec_l07Number (C : Comb) (x0 : Addr) (x1 : Sl) (x2 : Sl) : C.St :=
  C.loop (TL [(.int .i64), (.int .i64)]) (embL [(.int .i64), (.int .i64)]) [(.int .i64 0), (.int .i64 0)] fun s1 ct1 => C.any fun _ =>
  cond (decide (s1.2 < (x2.n : Int))) (
    C.draw <|
    C.ld .slice 1 (x0.add 0) fun v19 =>
    C.ix x2.a x2.n 32 s1.2 fun p23 =>
    C.ld .agg 32 p23 fun v24 =>
    C.call n_spec_l07Find [(.slice x1.a x1.n x1.c), (.agg v24)] [(.int .i64)] fun r25 =>
    C.chk [⟨4, 1, (x0.add 0), .slice, v19⟩] <|
    C.ix v19.a v19.n 35 r25 fun p26 =>
    C.ld (.int .i64) 1 (p26.add 33) fun v28 =>
    C.callP n_spec_l00Max [(.int .i64 s1.1), (.int .i64 (IntKind.wrap .i64 (v28 + 1)))] [(.int .i64)] fun r30 =>
    ct1 [(.int .i64 r30), (.int .i64 (IntKind.wrap .i64 (s1.2 + 1)))]
  ) (
    C.ret (.int .i64 s1.1)
  )
theorem spec_l07Number_eq (C : Comb) (x0 : Addr) (x1 : Sl) (x2 : Sl) : fT C Tryz.prog { loop := [(3, [(7, (.int .i64)), (8, (.int .i64))])], join := [], anyOrder := [5], pure := [302] } n_spec_l07Number [(.pointer (some x0)), (.slice x1.a x1.n x1.c), (.slice x2.a x2.n x2.c)] = spec_l07Number C x0 x1 x2 := by kernel_rfl
theorem spec_l07Number_calls {R : Value → World → Prop} {w : World} (x0 : Addr) (x1 : Sl) (x2 : Sl) (h : (spec_l07Number (real Tryz.prog R) x0 x1 x2 : World → Prop) w) :
    Calls Tryz.prog n_spec_l07Number [(.pointer (some x0)), (.slice x1.a x1.n x1.c), (.slice x2.a x2.n x2.c)].toArray w fun e w' => ∃ v, e = .returned v ∧ R v w' := fT_sound mixed { loop := [(3, [(7, (.int .i64)), (8, (.int .i64))])], join := [], anyOrder := [5], pure := [302] } (by rw [spec_l07Number_eq]; exact h)

/-- spec.l04Ok (252) -/
def spec_l04Ok (C : Comb) (x0 : Sl) : C.St :=
  C.loop (TL [(.int .i64)]) (embL [(.int .i64)]) [(.int .i64 0)] fun s1 ct1 => C.any fun _ =>
  cond (decide (s1 < (x0.n : Int))) (
    C.draw <|
    C.ix x0.a x0.n 2 s1 fun p12 =>
    C.callQ n_spec_l04Entry [(.pointer (some p12))] [.bool] fun r13 =>
    cond (!r13) (
      C.ret (.bool false)
    ) (
      cond (decide (s1 > 0)) (
        C.ix x0.a x0.n 2 (IntKind.wrap .i64 (s1 - 1)) fun p22 =>
        C.ld .str 1 (p22.add 0) fun v24 =>
        C.ix x0.a x0.n 2 s1 fun p27 =>
        C.ld .str 1 (p27.add 0) fun v29 =>
        C.pur (eqB .geq ty_string (.tmp 24) (.tmp 29) (.string v24) (.string v29)) .bool fun y30 =>
        cond y30 (
          C.ret (.bool false)
        ) (
          ct1 [(.int .i64 (IntKind.wrap .i64 (s1 + 1)))]
        )
      ) (
        ct1 [(.int .i64 (IntKind.wrap .i64 (s1 + 1)))]
      )
    )
  ) (
    C.ret (.bool (decide ((x0.n : Int) ≤ 64)))
  )
theorem spec_l04Ok_eq (C : Comb) (x0 : Sl) : fT C Tryz.prog { loop := [(2, [(3, (.int .i64))])], join := [], anyOrder := [], pure := [] } n_spec_l04Ok [(.slice x0.a x0.n x0.c)] = spec_l04Ok C x0 := by kernel_rfl
theorem spec_l04Ok_calls {R : Value → World → Prop} {w : World} (x0 : Sl) (h : (spec_l04Ok (real Tryz.prog R) x0 : World → Prop) w) :
    Calls Tryz.prog n_spec_l04Ok [(.slice x0.a x0.n x0.c)].toArray w fun e w' => ∃ v, e = .returned v ∧ R v w' := fT_sound mixed { loop := [(2, [(3, (.int .i64))])], join := [], anyOrder := [], pure := [] } (by rw [spec_l04Ok_eq]; exact h)

/-- impl.EmptyMapKey (258) -/
def impl_EmptyMapKey (C : Comb)  : C.St :=
  C.new ty_impl_Key (.agg (Array.replicate 32 (.int .u8 0))) fun b0 =>
  C.call n_impl_hash [(.int .u8 5), (.slice none 0 0)] [.agg] fun r1 =>
  C.st 32 (Addr.mk b0 0 none) (.agg r1) <|
  C.ld .agg 32 (Addr.mk b0 0 none) fun z3 =>
  C.ret (.agg z3)
theorem impl_EmptyMapKey_eq (C : Comb)  : fT C Tryz.prog { loop := [], join := [], anyOrder := [], pure := [] } n_impl_EmptyMapKey [] = impl_EmptyMapKey C  := by kernel_rfl
theorem impl_EmptyMapKey_calls {R : Value → World → Prop} {w : World}  (h : (impl_EmptyMapKey (real Tryz.prog R)  : World → Prop) w) :
    Calls Tryz.prog n_impl_EmptyMapKey [].toArray w fun e w' => ∃ v, e = .returned v ∧ R v w' := fT_sound mixed { loop := [], join := [], anyOrder := [], pure := [] } (by rw [impl_EmptyMapKey_eq]; exact h)

/-- spec.l04Empty (262) -/
def spec_l04Empty (C : Comb)  : C.St :=
  C.new ty_impl_Key (.agg (Array.replicate 32 (.int .u8 0))) fun b0 =>
  C.sem (Instr.buildSlice ty_sl_uint8 0 #[]) .slice fun y1 =>
  C.call n_spec_l01Hash [(.int .u8 5), (.slice y1.a y1.n y1.c)] [.agg] fun r2 =>
  C.st 32 (Addr.mk b0 0 none) (.agg r2) <|
  C.ld .agg 32 (Addr.mk b0 0 none) fun z4 =>
  C.ret (.agg z4)
theorem spec_l04Empty_eq (C : Comb)  : fT C Tryz.prog { loop := [], join := [], anyOrder := [], pure := [] } n_spec_l04Empty [] = spec_l04Empty C  := by kernel_rfl
theorem spec_l04Empty_calls {R : Value → World → Prop} {w : World}  (h : (spec_l04Empty (real Tryz.prog R)  : World → Prop) w) :
    Calls Tryz.prog n_spec_l04Empty [].toArray w fun e w' => ∃ v, e = .returned v ∧ R v w' := fT_sound mixed { loop := [], join := [], anyOrder := [], pure := [] } (by rw [spec_l04Empty_eq]; exact h)

end Go.Proofs.YtaadgdbegpmlmaaGreat
