/- Printed by a program of this claim's author: each Go function as a Lean function over abstract combinators, and the equation that says that T makes it of the loaded code. -/
import Derived.Test.YtcebkinkbelcnaaGreatSxE
import Derived.Test.YtcebkinkbelcnaaGreatProg
namespace Go.Proofs.YtcebkinkbelcnaaGreat
open Go.Sx
/-- (*impl.shop).has (70) -/
def ptr_impl_shop_has (C : Comb) (x0 : Addr) (x1 : Array Value) : C.St :=
  C.new ty_impl_Key (.agg x1) fun b3 =>
  C.ld .agg 32 (Addr.mk b3 0 none) fun v9 =>
  C.call n_ptr_impl_shop_find [(.pointer (some x0)), (.agg v9)] [(.int .i64), .bool] fun r10 =>
  C.ret (.bool r10.2)
theorem ptr_impl_shop_has_eq (C : Comb) (x0 : Addr) (x1 : Array Value) : fT C Tryz.prog { loop := [], join := [], anyOrder := [], pure := [] } n_ptr_impl_shop_has [(.pointer (some x0)), (.agg x1)] = ptr_impl_shop_has C x0 x1 := by kernel_rfl
theorem ptr_impl_shop_has_calls {R : Value → World → Prop} {w : World} (x0 : Addr) (x1 : Array Value) (h : (ptr_impl_shop_has (real Tryz.prog R) x0 x1 : World → Prop) w) :
    Calls Tryz.prog n_ptr_impl_shop_has [(.pointer (some x0)), (.agg x1)].toArray w fun e w' => ∃ v, e = .returned v ∧ R v w' := fT_sound mixed { loop := [], join := [], anyOrder := [], pure := [] } (by rw [ptr_impl_shop_has_eq]; exact h)

/-- (impl.Blob).links (71) -/
def impl_Blob_links (C : Comb) (x0 : Array Value) : C.St :=
  C.new ty_impl_Blob (.agg x0) fun b1 =>
  C.ld .slice 1 ((Addr.mk b1 0 none).add 1) fun v8 =>
  C.ld (.int .u8) 1 ((Addr.mk b1 0 none).add 0) fun v11 =>
  cond (v11 == 2) (
    cond ((v8.n : Int) == 64) (
      C.ld .slice 1 ((Addr.mk b1 0 none).add 1) fun v17 =>
      C.call n_impl_keysIn [(.slice v17.a v17.n v17.c)] [.slice] fun r18 =>
      C.ret (.slice r18.a r18.n r18.c)
    ) (
      C.ret (.slice none 0 0)
    )
  ) (
    cond (v11 == 5) (
      C.ld .slice 1 ((Addr.mk b1 0 none).add 1) fun v23 =>
      C.call n_impl_ReadMapNode [(.slice v23.a v23.n v23.c)] [.agg, (.int .i64)] fun r24 =>
      C.new ty_impl_MapNode (.agg (#[(.int .u8 0), (.int .u8 0), (.int .u8 0), (.int .u8 0), (.int .u8 0), (.int .u8 0), (.int .u8 0), (.int .u8 0), (.int .u8 0), (.int .u8 0), (.int .u8 0), (.int .u8 0), (.int .u8 0), (.int .u8 0), (.int .u8 0), (.int .u8 0), (.int .u8 0), (.int .u8 0), (.int .u8 0), (.int .u8 0), (.int .u8 0), (.int .u8 0), (.int .u8 0), (.int .u8 0), (.int .u8 0), (.int .u8 0), (.int .u8 0), (.int .u8 0), (.int .u8 0), (.int .u8 0), (.int .u8 0), (.int .u8 0), (.int .u8 0), (.int .u8 0), (.int .u8 0), (.int .u8 0), (.int .u8 0), (.int .u8 0), (.int .u8 0), (.int .u8 0), (.int .u8 0), (.int .u8 0), (.int .u8 0), (.int .u8 0), (.int .u8 0), (.int .u8 0), (.int .u8 0), (.int .u8 0), (.int .u8 0), (.int .u8 0), (.int .u8 0), (.int .u8 0), (.int .u8 0), (.int .u8 0), (.int .u8 0), (.int .u8 0), (.int .u8 0), (.int .u8 0), (.int .u8 0), (.int .u8 0), (.int .u8 0), (.int .u8 0), (.int .u8 0), (.int .u8 0), (.string (⟨#[]⟩ : ByteArray)), (.string (⟨#[]⟩ : ByteArray))])) fun b4 =>
      C.st 66 (Addr.mk b4 0 none) (.agg r24.1) <|
      cond (r24.2 == 0) (
        C.call n_impl_EmptyMapKey [] [.agg] fun r29 =>
        C.new ty_impl_Key (.agg (Array.replicate 32 (.int .u8 0))) fun b6 =>
        C.st 32 (Addr.mk b6 0 none) (.agg r29) <|
        C.ld .agg 32 ((Addr.mk b4 0 none).add 0) fun v31 =>
        C.ld .agg 32 ((Addr.mk b4 0 none).add 32) fun v33 =>
        C.sem (Instr.buildSlice ty_sl_impl_Key 2 #[(0, (.agg v31)), (1, (.agg v33))]) .slice fun y34 =>
        C.call n_slices_DeleteFunc_sl_impl_Key_impl_Key [(.slice y34.a y34.n y34.c), (.func (.func n_impl_Blob_links_1) #[] #[(.pointer (some (Addr.mk b6 0 none)))])] [.slice] fun r36 =>
        C.ret (.slice r36.a r36.n r36.c)
      ) (
        C.ret (.slice none 0 0)
      )
    ) (
      cond (v11 == 6) (
        cond ((Int.tmod (v8.n : Int) 32) == 0) (
          C.ld .slice 1 ((Addr.mk b1 0 none).add 1) fun v43 =>
          C.call n_impl_keysIn [(.slice v43.a v43.n v43.c)] [.slice] fun r44 =>
          C.ret (.slice r44.a r44.n r44.c)
        ) (
          C.ret (.slice none 0 0)
        )
      ) (
        cond (v11 == 7) (
          C.join (TL [.bool]) (embL [.bool]) (fun s20 => C.any fun _ =>
              cond s20 (
                C.draw <|
                C.ld .slice 1 ((Addr.mk b1 0 none).add 1) fun v61 =>
                C.ld .slice 1 ((Addr.mk b1 0 none).add 1) fun v63 =>
                C.ix v63.a v63.n 1 0 fun p64 =>
                C.ld (.int .u8) 1 p64 fun v65 =>
                C.sl v61.a v61.n v61.c 1 (some 1) (some (IntKind.wrap .i64 (1 + (IntKind.wrap .i64 (32 * (IntKind.wrap .i64 (v65))))))) none fun y69 =>
                C.call n_impl_keysIn [(.slice y69.a y69.n y69.c)] [.slice] fun r70 =>
                C.chk [⟨5, 1, p64, (.int .u8), v65⟩, ⟨3, 1, ((Addr.mk b1 0 none).add 1), .slice, v63⟩, ⟨1, 1, ((Addr.mk b1 0 none).add 1), .slice, v61⟩] <|
                C.ret (.slice r70.a r70.n r70.c)
              ) (
                C.ret (.slice none 0 0)
              )
            ) fun jt =>
          cond (decide ((v8.n : Int) > 0)) (
            C.ld .slice 1 ((Addr.mk b1 0 none).add 1) fun v52 =>
            C.ix v52.a v52.n 1 0 fun p53 =>
            C.ld (.int .u8) 1 p53 fun v54 =>
            jt [(.bool (decide ((v8.n : Int) ≥ (IntKind.wrap .i64 (1 + (IntKind.wrap .i64 (32 * (IntKind.wrap .i64 (v54)))))))))]
          ) (
            jt [(.bool false)]
          )
        ) (
          C.ret (.slice none 0 0)
        )
      )
    )
  )
theorem impl_Blob_links_eq (C : Comb) (x0 : Array Value) : fT C Tryz.prog { loop := [], join := [(46, [(59, .bool)])], anyOrder := [16], pure := [] } n_impl_Blob_links [(.agg x0)] = impl_Blob_links C x0 := by kernel_rfl
theorem impl_Blob_links_calls {R : Value → World → Prop} {w : World} (x0 : Array Value) (h : (impl_Blob_links (real Tryz.prog R) x0 : World → Prop) w) :
    Calls Tryz.prog n_impl_Blob_links [(.agg x0)].toArray w fun e w' => ∃ v, e = .returned v ∧ R v w' := fT_sound mixed { loop := [], join := [(46, [(59, .bool)])], anyOrder := [16], pure := [] } (by rw [impl_Blob_links_eq]; exact h)

/-- slices.Reverse[[]impl.Key,impl.Key] (72) -/
def slices_Reverse_sl_impl_Key_impl_Key (C : Comb) (x0 : Sl) : C.St :=
  C.loop (TL [(.int .i64), (.int .i64)]) (embL [(.int .i64), (.int .i64)]) [(.int .i64 0), (.int .i64 (IntKind.wrap .i64 ((x0.n : Int) - 1)))] fun s1 ct1 => C.any fun _ =>
  cond (decide (s1.1 < s1.2)) (
    C.draw <|
    C.ix x0.a x0.n 32 s1.2 fun p20 =>
    C.ld .agg 32 p20 fun v21 =>
    C.ix x0.a x0.n 32 s1.1 fun p24 =>
    C.ld .agg 32 p24 fun v25 =>
    C.ix x0.a x0.n 32 s1.1 fun p26 =>
    C.st 32 p26 (.agg v21) <|
    C.ix x0.a x0.n 32 s1.2 fun p27 =>
    C.st 32 p27 (.agg v25) <|
    ct1 [(.int .i64 (IntKind.wrap .i64 (s1.1 + 1))), (.int .i64 (IntKind.wrap .i64 (s1.2 - 1)))]
  ) (
    C.ret (.tuple #[])
  )
theorem slices_Reverse_sl_impl_Key_impl_Key_eq (C : Comb) (x0 : Sl) : fT C Tryz.prog { loop := [(1, [(2, (.int .i64)), (3, (.int .i64))])], join := [], anyOrder := [3], pure := [] } n_slices_Reverse_sl_impl_Key_impl_Key [(.slice x0.a x0.n x0.c)] = slices_Reverse_sl_impl_Key_impl_Key C x0 := by kernel_rfl
theorem slices_Reverse_sl_impl_Key_impl_Key_calls {R : Value → World → Prop} {w : World} (x0 : Sl) (h : (slices_Reverse_sl_impl_Key_impl_Key (real Tryz.prog R) x0 : World → Prop) w) :
    Calls Tryz.prog n_slices_Reverse_sl_impl_Key_impl_Key [(.slice x0.a x0.n x0.c)].toArray w fun e w' => ∃ v, e = .returned v ∧ R v w' := fT_sound mixed { loop := [(1, [(2, (.int .i64)), (3, (.int .i64))])], join := [], anyOrder := [3], pure := [] } (by rw [slices_Reverse_sl_impl_Key_impl_Key_eq]; exact h)

/-- spec.l05Asked (73) -/
def spec_l05Asked (C : Comb) (x0 : Addr) (x1 : Sl) : C.St :=
  C.call n_spec_l05Open [(.pointer (some x0))] [.optr, .bool] fun r10 =>
  cond (!r10.2) (
    C.ret (.tuple #[(.pointer r10.1), (.int .i64 1)])
  ) (
    cond (decide ((x1.n : Int) > 256)) (
      C.ret (.tuple #[(.pointer r10.1), (.int .i64 3)])
    ) (
      C.ret (.tuple #[(.pointer r10.1), (.int .i64 0)])
    )
  )
theorem spec_l05Asked_eq (C : Comb) (x0 : Addr) (x1 : Sl) : fT C Tryz.prog { loop := [], join := [], anyOrder := [], pure := [] } n_spec_l05Asked [(.pointer (some x0)), (.slice x1.a x1.n x1.c)] = spec_l05Asked C x0 x1 := by kernel_rfl
theorem spec_l05Asked_calls {R : Value → World → Prop} {w : World} (x0 : Addr) (x1 : Sl) (h : (spec_l05Asked (real Tryz.prog R) x0 x1 : World → Prop) w) :
    Calls Tryz.prog n_spec_l05Asked [(.pointer (some x0)), (.slice x1.a x1.n x1.c)].toArray w fun e w' => ∃ v, e = .returned v ∧ R v w' := fT_sound mixed { loop := [], join := [], anyOrder := [], pure := [] } (by rw [spec_l05Asked_eq]; exact h)

/-- (*spec.l05Store).reach (74) -/
def ptr_spec_l05Store_reach (C : Comb) (x0 : Addr) (x1 : Sl) : C.St :=
  C.ld .slice 1 (x0.add 1) fun v14 =>
  C.sem (Instr.makeSlice ty_sl_bool (.int .i64 (v14.n : Int)) (.int .i64 (v14.n : Int))) .slice fun y16 =>
  C.sem (Instr.buildSlice ty_sl_impl_Key 0 #[]) .slice fun y17 =>
  C.sem (Instr.buildSlice ty_sl_impl_Key 0 #[]) .slice fun y18 =>
  C.sem (Builtin.append_ #[ty_sl_impl_Key, ty_sl_impl_Key] ty_sl_impl_Key #[(.slice y18.a y18.n y18.c), (.slice x1.a x1.n x1.c)]) .slice fun y20 =>
  C.loop (TL [.slice, .slice, (.int .i64)]) (embL [.slice, .slice, (.int .i64)]) [(.slice y17.a y17.n y17.c), (.slice y20.a y20.n y20.c), (.int .i64 0)] fun s6 ct6 => C.any fun _ =>
  cond (decide (s6.2.2 < (s6.2.1.n : Int))) (
    C.ix s6.2.1.a s6.2.1.n 32 s6.2.2 fun p30 =>
    C.ld .agg 32 p30 fun v31 =>
    C.call n_ptr_spec_l05Store_find [(.pointer (some x0)), (.agg v31)] [(.int .i64)] fun r32 =>
    cond (decide (r32 < 0)) (
      C.ix s6.2.1.a s6.2.1.n 32 s6.2.2 fun p38 =>
      C.ld .agg 32 p38 fun v39 =>
      C.call n_spec_l01Has [(.slice s6.1.a s6.1.n s6.1.c), (.agg v39)] [.bool] fun r40 =>
      cond (!r40) (
        C.ix s6.2.1.a s6.2.1.n 32 s6.2.2 fun p45 =>
        C.ld .agg 32 p45 fun v46 =>
        C.sem (Instr.buildSlice ty_sl_impl_Key 1 #[(0, (.agg v46))]) .slice fun y47 =>
        C.sem (Builtin.append_ #[ty_sl_impl_Key, ty_sl_impl_Key] ty_sl_impl_Key #[(.slice s6.1.a s6.1.n s6.1.c), (.slice y47.a y47.n y47.c)]) .slice fun y48 =>
        ct6 [(.slice y48.a y48.n y48.c), (.slice s6.2.1.a s6.2.1.n s6.2.1.c), (.int .i64 (IntKind.wrap .i64 (s6.2.2 + 1)))]
      ) (
        ct6 [(.slice s6.1.a s6.1.n s6.1.c), (.slice s6.2.1.a s6.2.1.n s6.2.1.c), (.int .i64 (IntKind.wrap .i64 (s6.2.2 + 1)))]
      )
    ) (
      C.ix y16.a y16.n 1 r32 fun p51 =>
      C.ld .bool 1 p51 fun v52 =>
      cond (!v52) (
        C.ix y16.a y16.n 1 r32 fun p56 =>
        C.st 1 p56 (.bool true) <|
        C.ld .slice 1 (x0.add 0) fun v61 =>
        C.ix v61.a v61.n 2 r32 fun p63 =>
        C.call n_spec_l05Links [(.pointer (some p63))] [.slice] fun r64 =>
        C.sem (Builtin.append_ #[ty_sl_impl_Key, ty_sl_impl_Key] ty_sl_impl_Key #[(.slice s6.2.1.a s6.2.1.n s6.2.1.c), (.slice r64.a r64.n r64.c)]) .slice fun y65 =>
        ct6 [(.slice s6.1.a s6.1.n s6.1.c), (.slice y65.a y65.n y65.c), (.int .i64 (IntKind.wrap .i64 (s6.2.2 + 1)))]
      ) (
        ct6 [(.slice s6.1.a s6.1.n s6.1.c), (.slice s6.2.1.a s6.2.1.n s6.2.1.c), (.int .i64 (IntKind.wrap .i64 (s6.2.2 + 1)))]
      )
    )
  ) (
    C.ret (.tuple #[(.slice y16.a y16.n y16.c), (.slice s6.1.a s6.1.n s6.1.c)])
  )
theorem ptr_spec_l05Store_reach_eq (C : Comb) (x0 : Addr) (x1 : Sl) : fT C Tryz.prog { loop := [(5, [(7, .slice), (8, .slice), (9, (.int .i64))])], join := [], anyOrder := [], pure := [] } n_ptr_spec_l05Store_reach [(.pointer (some x0)), (.slice x1.a x1.n x1.c)] = ptr_spec_l05Store_reach C x0 x1 := by kernel_rfl
theorem ptr_spec_l05Store_reach_calls {R : Value → World → Prop} {w : World} (x0 : Addr) (x1 : Sl) (h : (ptr_spec_l05Store_reach (real Tryz.prog R) x0 x1 : World → Prop) w) :
    Calls Tryz.prog n_ptr_spec_l05Store_reach [(.pointer (some x0)), (.slice x1.a x1.n x1.c)].toArray w fun e w' => ∃ v, e = .returned v ∧ R v w' := fT_sound mixed { loop := [(5, [(7, .slice), (8, .slice), (9, (.int .i64))])], join := [], anyOrder := [], pure := [] } (by rw [ptr_spec_l05Store_reach_eq]; exact h)

/-- (*spec.l05Store).keep (75) -/
def ptr_spec_l05Store_keep (C : Comb) (x0 : Addr) (x1 : Sl) : C.St :=
  C.pur (Instr.build ty_spec_l05Store #[]) .agg fun y7 =>
  C.new ty_spec_l05Store (.agg y7) fun b8 =>
  C.loop (TL [(.int .i64)]) (embL [(.int .i64)]) [(.int .i64 0)] fun s3 ct3 => C.any fun _ =>
  cond (decide (s3 < (x1.n : Int))) (
    C.ix x1.a x1.n 1 s3 fun p17 =>
    C.ld .bool 1 p17 fun v18 =>
    cond v18 (
      C.join (TL []) (embL []) (fun s12 => C.any fun _ =>
          C.draw <|
          C.ld .slice 1 ((Addr.mk b8 0 none).add 1) fun v39 =>
          C.ld .slice 1 (x0.add 1) fun v43 =>
          C.ix v43.a v43.n 32 s3 fun p45 =>
          C.ld .agg 32 p45 fun v46 =>
          C.sem (Instr.buildSlice ty_sl_impl_Key 1 #[(0, (.agg v46))]) .slice fun y47 =>
          C.chk [⟨8, 1, (x0.add 1), .slice, v43⟩, ⟨4, 1, ((Addr.mk b8 0 none).add 1), .slice, v39⟩] <|
          C.sem (Builtin.append_ #[ty_sl_impl_Key, ty_sl_impl_Key] ty_sl_impl_Key #[(.slice v39.a v39.n v39.c), (.slice y47.a y47.n y47.c)]) .slice fun y48 =>
          C.chk [⟨8, 1, (x0.add 1), .slice, v43⟩] <|
          C.st 1 ((Addr.mk b8 0 none).add 1) (.slice y48.a y48.n y48.c) <|
          ct3 [(.int .i64 (IntKind.wrap .i64 (s3 + 1)))]
        ) fun jt =>
      C.draw <|
      C.ld .slice 1 ((Addr.mk b8 0 none).add 0) fun v23 =>
      C.ld .slice 1 (x0.add 0) fun v27 =>
      C.ix v27.a v27.n 2 s3 fun p29 =>
      C.ld .agg 2 p29 fun v30 =>
      C.sem (Instr.buildSlice ty_sl_impl_Blob 1 #[(0, (.agg v30))]) .slice fun y31 =>
      C.chk [⟨8, 1, (x0.add 0), .slice, v27⟩, ⟨4, 1, ((Addr.mk b8 0 none).add 0), .slice, v23⟩] <|
      C.sem (Builtin.append_ #[ty_sl_impl_Blob, ty_sl_impl_Blob] ty_sl_impl_Blob #[(.slice v23.a v23.n v23.c), (.slice y31.a y31.n y31.c)]) .slice fun y32 =>
      C.chk [⟨8, 1, (x0.add 0), .slice, v27⟩] <|
      C.st 1 ((Addr.mk b8 0 none).add 0) (.slice y32.a y32.n y32.c) <|
      jt []
    ) (
      ct3 [(.int .i64 (IntKind.wrap .i64 (s3 + 1)))]
    )
  ) (
    C.ret (.pointer (some (Addr.mk b8 0 none)))
  )
theorem ptr_spec_l05Store_keep_eq (C : Comb) (x0 : Addr) (x1 : Sl) : fT C Tryz.prog { loop := [(3, [(6, (.int .i64))])], join := [(19, [])], anyOrder := [6, 7], pure := [] } n_ptr_spec_l05Store_keep [(.pointer (some x0)), (.slice x1.a x1.n x1.c)] = ptr_spec_l05Store_keep C x0 x1 := by kernel_rfl
theorem ptr_spec_l05Store_keep_calls {R : Value → World → Prop} {w : World} (x0 : Addr) (x1 : Sl) (h : (ptr_spec_l05Store_keep (real Tryz.prog R) x0 x1 : World → Prop) w) :
    Calls Tryz.prog n_ptr_spec_l05Store_keep [(.pointer (some x0)), (.slice x1.a x1.n x1.c)].toArray w fun e w' => ∃ v, e = .returned v ∧ R v w' := fT_sound mixed { loop := [(3, [(6, (.int .i64))])], join := [(19, [])], anyOrder := [6, 7], pure := [] } (by rw [ptr_spec_l05Store_keep_eq]; exact h)

/-- impl.reachCode (76) -/
def impl_reachCode (C : Comb) (x0 : Array Value) (x1 : Sl) : C.St :=
  C.new ty_impl_Store (.agg x0) fun b2 =>
  C.ld .agg 1 (Addr.mk b2 0 none) fun v9 =>
  C.call n_impl_newShop [(.agg v9)] [.optr, .bool] fun r10 =>
  cond (!r10.2) (
    C.ret (.tuple #[(.pointer none), (.int .i64 1)])
  ) (
    C.call n_slices_ContainsFunc_sl_sl_impl_Key_sl_impl_Key [(.slice x1.a x1.n x1.c), (.func (.func n_impl_reachCode_1) #[] #[])] [.bool] fun r18 =>
    cond r18 (
      C.ret (.tuple #[(.pointer none), (.int .i64 3)])
    ) (
      C.ret (.tuple #[(.pointer r10.1), (.int .i64 0)])
    )
  )
theorem impl_reachCode_eq (C : Comb) (x0 : Array Value) (x1 : Sl) : fT C Tryz.prog { loop := [], join := [], anyOrder := [], pure := [] } n_impl_reachCode [(.agg x0), (.slice x1.a x1.n x1.c)] = impl_reachCode C x0 x1 := by kernel_rfl
theorem impl_reachCode_calls {R : Value → World → Prop} {w : World} (x0 : Array Value) (x1 : Sl) (h : (impl_reachCode (real Tryz.prog R) x0 x1 : World → Prop) w) :
    Calls Tryz.prog n_impl_reachCode [(.agg x0), (.slice x1.a x1.n x1.c)].toArray w fun e w' => ∃ v, e = .returned v ∧ R v w' := fT_sound mixed { loop := [], join := [], anyOrder := [], pure := [] } (by rw [impl_reachCode_eq]; exact h)

/-- (*impl.shop).reached (77) -/
def ptr_impl_shop_reached (C : Comb) (x0 : Addr) (x1 : Sl) (x2 : Bool) : C.St :=
  C.new ty_ptr_impl_shop (.pointer (some x0)) fun b3 =>
  C.new ty_bool (.bool x2) fun b5 =>
  C.ld .ptr 1 (Addr.mk b3 0 none) fun v7 =>
  C.call n_ptr_impl_shop_reach [(.pointer (some v7)), (.slice x1.a x1.n x1.c)] [.slice] fun r9 =>
  C.call n_slices_DeleteFunc_sl_impl_Key_impl_Key [(.slice r9.a r9.n r9.c), (.func (.func n_ptr_impl_shop_reached_1) #[] #[(.pointer (some (Addr.mk b3 0 none))), (.pointer (some (Addr.mk b5 0 none)))])] [.slice] fun r11 =>
  C.call n_impl_sorted [(.slice r11.a r11.n r11.c)] [.slice] fun r12 =>
  C.ret (.slice r12.a r12.n r12.c)
theorem ptr_impl_shop_reached_eq (C : Comb) (x0 : Addr) (x1 : Sl) (x2 : Bool) : fT C Tryz.prog { loop := [], join := [], anyOrder := [], pure := [] } n_ptr_impl_shop_reached [(.pointer (some x0)), (.slice x1.a x1.n x1.c), (.bool x2)] = ptr_impl_shop_reached C x0 x1 x2 := by kernel_rfl
theorem ptr_impl_shop_reached_calls {R : Value → World → Prop} {w : World} (x0 : Addr) (x1 : Sl) (x2 : Bool) (h : (ptr_impl_shop_reached (real Tryz.prog R) x0 x1 x2 : World → Prop) w) :
    Calls Tryz.prog n_ptr_impl_shop_reached [(.pointer (some x0)), (.slice x1.a x1.n x1.c), (.bool x2)].toArray w fun e w' => ∃ v, e = .returned v ∧ R v w' := fT_sound mixed { loop := [], join := [], anyOrder := [], pure := [] } (by rw [ptr_impl_shop_reached_eq]; exact h)

/-- spec.l05Ascending (78) -/
def spec_l05Ascending (C : Comb) (x0 : Sl) : C.St :=
  C.call n_spec_l01Sort [(.slice x0.a x0.n x0.c), (.agg (Array.replicate 32 (.int .u8 0)))] [.slice] fun r5 =>
  C.ret (.slice r5.a r5.n r5.c)
theorem spec_l05Ascending_eq (C : Comb) (x0 : Sl) : fT C Tryz.prog { loop := [], join := [], anyOrder := [], pure := [] } n_spec_l05Ascending [(.slice x0.a x0.n x0.c)] = spec_l05Ascending C x0 := by kernel_rfl
theorem spec_l05Ascending_calls {R : Value → World → Prop} {w : World} (x0 : Sl) (h : (spec_l05Ascending (real Tryz.prog R) x0 : World → Prop) w) :
    Calls Tryz.prog n_spec_l05Ascending [(.slice x0.a x0.n x0.c)].toArray w fun e w' => ∃ v, e = .returned v ∧ R v w' := fT_sound mixed { loop := [], join := [], anyOrder := [], pure := [] } (by rw [spec_l05Ascending_eq]; exact h)

/-- spec.l05Key (79) -/
def spec_l05Key (C : Comb) (x0 : Addr) : C.St :=
  C.new ty_impl_Key (.agg (Array.replicate 32 (.int .u8 0))) fun b2 =>
  C.draw <|
  C.ld (.int .u8) 1 (x0.add 0) fun v6 =>
  C.ld .slice 1 (x0.add 1) fun v10 =>
  C.call n_spec_l01Hash [(.int .u8 v6), (.slice v10.a v10.n v10.c)] [.agg] fun r11 =>
  C.st 32 (Addr.mk b2 0 none) (.agg r11) <|
  C.ld .agg 32 (Addr.mk b2 0 none) fun z5 =>
  C.ret (.agg z5)
theorem spec_l05Key_eq (C : Comb) (x0 : Addr) : fT C Tryz.prog { loop := [], join := [], anyOrder := [1], pure := [] } n_spec_l05Key [(.pointer (some x0))] = spec_l05Key C x0 := by kernel_rfl
theorem spec_l05Key_calls {R : Value → World → Prop} {w : World} (x0 : Addr) (h : (spec_l05Key (real Tryz.prog R) x0 : World → Prop) w) :
    Calls Tryz.prog n_spec_l05Key [(.pointer (some x0))].toArray w fun e w' => ∃ v, e = .returned v ∧ R v w' := fT_sound mixed { loop := [], join := [], anyOrder := [1], pure := [] } (by rw [spec_l05Key_eq]; exact h)

/-- spec.l01Compare (80) -/
def spec_l01Compare (C : Comb) (x0 : Array Value) (x1 : Array Value) : C.St :=
  C.new ty_impl_Key (.agg x0) fun b2 =>
  C.new ty_impl_Key (.agg x1) fun b3 =>
  C.loop (TL [(.int .i64)]) (embL [(.int .i64)]) [(.int .i64 0)] fun s3 ct3 => C.any fun _ =>
  cond (decide (s3 < 32)) (
    C.draw <|
    C.ix (some (Addr.mk b2 0 none)) 32 1 s3 fun p11 =>
    C.ld (.int .u8) 1 p11 fun v12 =>
    C.ix (some (Addr.mk b3 0 none)) 32 1 s3 fun p14 =>
    C.ld (.int .u8) 1 p14 fun v15 =>
    cond (v12 != v15) (
      C.draw <|
      C.ix (some (Addr.mk b2 0 none)) 32 1 s3 fun p18 =>
      C.ld (.int .u8) 1 p18 fun v19 =>
      C.ix (some (Addr.mk b3 0 none)) 32 1 s3 fun p21 =>
      C.ld (.int .u8) 1 p21 fun v22 =>
      cond (decide (v19 < v22)) (
        C.ret (.int .i64 (-1))
      ) (
        C.ret (.int .i64 1)
      )
    ) (
      ct3 [(.int .i64 (IntKind.wrap .i64 (s3 + 1)))]
    )
  ) (
    C.ret (.int .i64 0)
  )
theorem spec_l01Compare_eq (C : Comb) (x0 : Array Value) (x1 : Array Value) : fT C Tryz.prog { loop := [(2, [(5, (.int .i64))])], join := [], anyOrder := [], pure := [] } n_spec_l01Compare [(.agg x0), (.agg x1)] = spec_l01Compare C x0 x1 := by kernel_rfl
theorem spec_l01Compare_calls {R : Value → World → Prop} {w : World} (x0 : Array Value) (x1 : Array Value) (h : (spec_l01Compare (real Tryz.prog R) x0 x1 : World → Prop) w) :
    Calls Tryz.prog n_spec_l01Compare [(.agg x0), (.agg x1)].toArray w fun e w' => ∃ v, e = .returned v ∧ R v w' := fT_sound mixed { loop := [(2, [(5, (.int .i64))])], join := [], anyOrder := [], pure := [] } (by rw [spec_l01Compare_eq]; exact h)

/-- impl.ValidStore (81) -/
def impl_ValidStore (C : Comb) (x0 : Array Value) : C.St :=
  C.new ty_impl_Store (.agg x0) fun b1 =>
  C.join (TL []) (embL []) (fun s5 => C.any fun _ =>
      C.ld .agg 1 (Addr.mk b1 0 none) fun v13 =>
      C.call n_impl_Store_keys [(.agg v13)] [.slice] fun r14 =>
      C.call n_impl_sorted [(.slice r14.a r14.n r14.c)] [.slice] fun r16 =>
      cond ((r16.n : Int) == (r14.n : Int)) (
        C.call n_slices_IsSortedFunc_sl_impl_Key_impl_Key [(.slice r14.a r14.n r14.c), (.func (.func n_impl_compareKeys) #[] #[])] [.bool] fun r23 =>
        C.ret (.bool r23)
      ) (
        C.ret (.bool false)
      )
    ) fun jt =>
  C.ld .slice 1 ((Addr.mk b1 0 none).add 0) fun v5 =>
  cond (decide ((v5.n : Int) > 128)) (
    C.ret (.bool false)
  ) (
    C.ld .slice 1 ((Addr.mk b1 0 none).add 0) fun v10 =>
    C.call n_slices_ContainsFunc_sl_impl_Blob_impl_Blob [(.slice v10.a v10.n v10.c), (.func (.func n_impl_ValidStore_1) #[] #[])] [.bool] fun r11 =>
    cond r11 (
      C.ret (.bool false)
    ) (
      jt []
    )
  )
theorem impl_ValidStore_eq (C : Comb) (x0 : Array Value) : fT C Tryz.prog { loop := [], join := [(36, [])], anyOrder := [], pure := [] } n_impl_ValidStore [(.agg x0)] = impl_ValidStore C x0 := by kernel_rfl
theorem impl_ValidStore_calls {R : Value → World → Prop} {w : World} (x0 : Array Value) (h : (impl_ValidStore (real Tryz.prog R) x0 : World → Prop) w) :
    Calls Tryz.prog n_impl_ValidStore [(.agg x0)].toArray w fun e w' => ∃ v, e = .returned v ∧ R v w' := fT_sound mixed { loop := [], join := [(36, [])], anyOrder := [], pure := [] } (by rw [impl_ValidStore_eq]; exact h)

/-- (impl.Store).keys (82) -/
def impl_Store_keys (C : Comb) (x0 : Array Value) : C.St :=
  C.new ty_impl_Store (.agg x0) fun b1 =>
  C.sem (Instr.buildSlice ty_sl_impl_Key 0 #[]) .slice fun y6 =>
  C.ld .slice 1 ((Addr.mk b1 0 none).add 0) fun v8 =>
  C.loop (TL [.slice, (.int .i64)]) (embL [.slice, (.int .i64)]) [(.slice y6.a y6.n y6.c), (.int .i64 0)] fun s4 ct4 => C.any fun _ =>
  cond (decide (s4.2 < (v8.n : Int))) (
    C.ix v8.a v8.n 2 s4.2 fun p12 =>
    C.ld .agg 2 p12 fun v13 =>
    C.new ty_impl_Blob (.agg (#[(.int .u8 0), (.slice none 0 0)])) fun b5 =>
    C.st 2 (Addr.mk b5 0 none) (.agg v13) <|
    C.ld .agg 2 (Addr.mk b5 0 none) fun v15 =>
    C.call n_impl_Blob_key [(.agg v15)] [.agg] fun r16 =>
    C.sem (Instr.buildSlice ty_sl_impl_Key 1 #[(0, (.agg r16))]) .slice fun y17 =>
    C.sem (Builtin.append_ #[ty_sl_impl_Key, ty_sl_impl_Key] ty_sl_impl_Key #[(.slice s4.1.a s4.1.n s4.1.c), (.slice y17.a y17.n y17.c)]) .slice fun y18 =>
    ct4 [(.slice y18.a y18.n y18.c), (.int .i64 (IntKind.wrap .i64 (s4.2 + 1)))]
  ) (
    C.ret (.slice s4.1.a s4.1.n s4.1.c)
  )
theorem impl_Store_keys_eq (C : Comb) (x0 : Array Value) : fT C Tryz.prog { loop := [(3, [(3, .slice), (10, (.int .i64))])], join := [], anyOrder := [], pure := [] } n_impl_Store_keys [(.agg x0)] = impl_Store_keys C x0 := by kernel_rfl
theorem impl_Store_keys_calls {R : Value → World → Prop} {w : World} (x0 : Array Value) (h : (impl_Store_keys (real Tryz.prog R) x0 : World → Prop) w) :
    Calls Tryz.prog n_impl_Store_keys [(.agg x0)].toArray w fun e w' => ∃ v, e = .returned v ∧ R v w' := fT_sound mixed { loop := [(3, [(3, .slice), (10, (.int .i64))])], join := [], anyOrder := [], pure := [] } (by rw [impl_Store_keys_eq]; exact h)

/-- slices.Clone[[]impl.Blob,impl.Blob] (83) -/
def slices_Clone_sl_impl_Blob_impl_Blob (C : Comb) (x0 : Sl) : C.St :=
  C.pur (eqB .eql ty_sl_impl_Blob (.tmp 3) (.const (.slice none 0 0)) (.slice x0.a x0.n x0.c) (.slice none 0 0)) .bool fun y4 =>
  cond y4 (
    C.ret (.slice none 0 0)
  ) (
    C.sem (Instr.buildSlice ty_sl_impl_Blob 0 #[]) .slice fun y5 =>
    C.sem (Builtin.append_ #[ty_sl_impl_Blob, ty_sl_impl_Blob] ty_sl_impl_Blob #[(.slice y5.a y5.n y5.c), (.slice x0.a x0.n x0.c)]) .slice fun y7 =>
    C.ret (.slice y7.a y7.n y7.c)
  )
theorem slices_Clone_sl_impl_Blob_impl_Blob_eq (C : Comb) (x0 : Sl) : fT C Tryz.prog { loop := [], join := [], anyOrder := [], pure := [] } n_slices_Clone_sl_impl_Blob_impl_Blob [(.slice x0.a x0.n x0.c)] = slices_Clone_sl_impl_Blob_impl_Blob C x0 := by kernel_rfl
theorem slices_Clone_sl_impl_Blob_impl_Blob_calls {R : Value → World → Prop} {w : World} (x0 : Sl) (h : (slices_Clone_sl_impl_Blob_impl_Blob (real Tryz.prog R) x0 : World → Prop) w) :
    Calls Tryz.prog n_slices_Clone_sl_impl_Blob_impl_Blob [(.slice x0.a x0.n x0.c)].toArray w fun e w' => ∃ v, e = .returned v ∧ R v w' := fT_sound mixed { loop := [], join := [], anyOrder := [], pure := [] } (by rw [slices_Clone_sl_impl_Blob_impl_Blob_eq]; exact h)

/-- (*impl.shop).find (84) -/
def ptr_impl_shop_find (C : Comb) (x0 : Addr) (x1 : Array Value) : C.St :=
  C.new ty_impl_Key (.agg x1) fun b3 =>
  C.draw <|
  C.ld .slice 1 (x0.add 0) fun v9 =>
  C.ld .agg 32 (Addr.mk b3 0 none) fun v10 =>
  C.call n_slices_BinarySearchFunc_sl_impl_Key_impl_Key_impl_Key [(.slice v9.a v9.n v9.c), (.agg v10), (.func (.func n_impl_compareKeys) #[] #[])] [(.int .i64), .bool] fun r11 =>
  C.ret (.tuple #[(.int .i64 r11.1), (.bool r11.2)])
theorem ptr_impl_shop_find_eq (C : Comb) (x0 : Addr) (x1 : Array Value) : fT C Tryz.prog { loop := [], join := [], anyOrder := [1], pure := [] } n_ptr_impl_shop_find [(.pointer (some x0)), (.agg x1)] = ptr_impl_shop_find C x0 x1 := by kernel_rfl
theorem ptr_impl_shop_find_calls {R : Value → World → Prop} {w : World} (x0 : Addr) (x1 : Array Value) (h : (ptr_impl_shop_find (real Tryz.prog R) x0 x1 : World → Prop) w) :
    Calls Tryz.prog n_ptr_impl_shop_find [(.pointer (some x0)), (.agg x1)].toArray w fun e w' => ∃ v, e = .returned v ∧ R v w' := fT_sound mixed { loop := [], join := [], anyOrder := [1], pure := [] } (by rw [ptr_impl_shop_find_eq]; exact h)

/-- spec.l05SameBlob (85) -/
def spec_l05SameBlob (C : Comb) (x0 : Addr) (x1 : Addr) : C.St :=
  C.draw <|
  C.ld (.int .u8) 1 (x0.add 0) fun v8 =>
  C.ld (.int .u8) 1 (x1.add 0) fun v12 =>
  cond (v8 == v12) (
    C.all [
      (C.ld .slice 1 (x0.add 1) fun v18 =>
       C.chk [⟨7, 1, (x1.add 0), (.int .u8), v12⟩, ⟨3, 1, (x0.add 0), (.int .u8), v8⟩] <|
       C.ld .slice 1 (x1.add 1) fun v22 =>
       C.chk [⟨7, 1, (x1.add 0), (.int .u8), v12⟩, ⟨3, 1, (x0.add 0), (.int .u8), v8⟩] <|
       C.call n_spec_l01Bytes [(.slice v18.a v18.n v18.c), (.slice v22.a v22.n v22.c)] [.bool] fun r23 =>
       C.chk [⟨7, 1, (x1.add 0), (.int .u8), v12⟩, ⟨3, 1, (x0.add 0), (.int .u8), v8⟩] <|
       C.ret (.bool r23)),
      (C.ld .slice 1 (x1.add 1) fun v22 =>
       C.chk [⟨7, 1, (x1.add 0), (.int .u8), v12⟩, ⟨3, 1, (x0.add 0), (.int .u8), v8⟩] <|
       C.ld .slice 1 (x0.add 1) fun v18 =>
       C.chk [⟨7, 1, (x1.add 0), (.int .u8), v12⟩, ⟨3, 1, (x0.add 0), (.int .u8), v8⟩] <|
       C.call n_spec_l01Bytes [(.slice v18.a v18.n v18.c), (.slice v22.a v22.n v22.c)] [.bool] fun r23 =>
       C.chk [⟨7, 1, (x1.add 0), (.int .u8), v12⟩, ⟨3, 1, (x0.add 0), (.int .u8), v8⟩] <|
       C.ret (.bool r23))]
  ) (
    C.all [
      (C.chk [⟨7, 1, (x1.add 0), (.int .u8), v12⟩, ⟨3, 1, (x0.add 0), (.int .u8), v8⟩] <|
       C.chk [⟨7, 1, (x1.add 0), (.int .u8), v12⟩, ⟨3, 1, (x0.add 0), (.int .u8), v8⟩] <|
       C.chk [⟨7, 1, (x1.add 0), (.int .u8), v12⟩, ⟨3, 1, (x0.add 0), (.int .u8), v8⟩] <|
       C.ret (.bool false)),
      (C.chk [⟨7, 1, (x1.add 0), (.int .u8), v12⟩, ⟨3, 1, (x0.add 0), (.int .u8), v8⟩] <|
       C.chk [⟨7, 1, (x1.add 0), (.int .u8), v12⟩, ⟨3, 1, (x0.add 0), (.int .u8), v8⟩] <|
       C.chk [⟨7, 1, (x1.add 0), (.int .u8), v12⟩, ⟨3, 1, (x0.add 0), (.int .u8), v8⟩] <|
       C.ret (.bool false))]
  )
theorem spec_l05SameBlob_eq (C : Comb) (x0 : Addr) (x1 : Addr) : fT C Tryz.prog { loop := [], join := [], anyOrder := [1], pure := [] } n_spec_l05SameBlob [(.pointer (some x0)), (.pointer (some x1))] = spec_l05SameBlob C x0 x1 := by kernel_rfl
theorem spec_l05SameBlob_calls {R : Value → World → Prop} {w : World} (x0 : Addr) (x1 : Addr) (h : (spec_l05SameBlob (real Tryz.prog R) x0 x1 : World → Prop) w) :
    Calls Tryz.prog n_spec_l05SameBlob [(.pointer (some x0)), (.pointer (some x1))].toArray w fun e w' => ∃ v, e = .returned v ∧ R v w' := fT_sound mixed { loop := [], join := [], anyOrder := [1], pure := [] } (by rw [spec_l05SameBlob_eq]; exact h)

/-- (*impl.shop).put (86) -/
def ptr_impl_shop_put (C : Comb) (x0 : Addr) (x1 : Array Value) : C.St :=
  C.new ty_impl_Blob (.agg x1) fun b3 =>
  C.new ty_impl_Key (.agg (Array.replicate 32 (.int .u8 0))) fun b4 =>
  C.ld .agg 2 (Addr.mk b3 0 none) fun v9 =>
  C.call n_impl_Blob_key [(.agg v9)] [.agg] fun r10 =>
  C.new ty_impl_Key (.agg (Array.replicate 32 (.int .u8 0))) fun b6 =>
  C.st 32 (Addr.mk b6 0 none) (.agg r10) <|
  C.ld .agg 32 (Addr.mk b6 0 none) fun v13 =>
  C.call n_ptr_impl_shop_find [(.pointer (some x0)), (.agg v13)] [(.int .i64), .bool] fun r14 =>
  C.join (TL [.bool]) (embL [.bool]) (fun s21 => C.any fun _ =>
      cond s21 (
        C.st 32 (Addr.mk b4 0 none) (.agg (Array.replicate 32 (.int .u8 0))) <|
        C.ld .agg 32 (Addr.mk b4 0 none) fun z22 =>
        C.ret (.tuple #[(.agg z22), (.int .i64 8)])
      ) (
        cond r14.2 (
          C.ld .agg 32 (Addr.mk b6 0 none) fun v34 =>
          C.st 32 (Addr.mk b4 0 none) (.agg v34) <|
          C.ld .agg 32 (Addr.mk b4 0 none) fun z24 =>
          C.ret (.tuple #[(.agg z24), (.int .i64 0)])
        ) (
          C.ld .slice 1 (x0.add 0) fun v39 =>
          cond ((v39.n : Int) == 128) (
            C.st 32 (Addr.mk b4 0 none) (.agg (Array.replicate 32 (.int .u8 0))) <|
            C.ld .agg 32 (Addr.mk b4 0 none) fun z26 =>
            C.ret (.tuple #[(.agg z26), (.int .i64 3)])
          ) (
            C.draw <|
            C.ld .slice 1 (x0.add 0) fun v48 =>
            C.ld .agg 32 (Addr.mk b6 0 none) fun v50 =>
            C.ld .slice 1 (x0.add 1) fun v56 =>
            C.ld .agg 2 (Addr.mk b3 0 none) fun v58 =>
            C.all [
              (C.sem (Instr.buildSlice ty_sl_impl_Key 1 #[(0, (.agg v50))]) .slice fun y51 =>
               C.chk [⟨15, 2, (Addr.mk b3 0 none), .agg, v58⟩, ⟨13, 1, (x0.add 1), .slice, v56⟩, ⟨5, 1, (x0.add 0), .slice, v48⟩] <|
               C.all [
                 (C.call n_slices_Insert_sl_impl_Key_impl_Key [(.slice v48.a v48.n v48.c), (.int .i64 r14.1), (.slice y51.a y51.n y51.c)] [.slice] fun r52 =>
                  C.chk [⟨15, 2, (Addr.mk b3 0 none), .agg, v58⟩, ⟨13, 1, (x0.add 1), .slice, v56⟩] <|
                  C.sem (Instr.buildSlice ty_sl_impl_Blob 1 #[(0, (.agg v58))]) .slice fun y59 =>
                  C.chk [⟨13, 1, (x0.add 1), .slice, v56⟩] <|
                  C.call n_slices_Insert_sl_impl_Blob_impl_Blob [(.slice v56.a v56.n v56.c), (.int .i64 r14.1), (.slice y59.a y59.n y59.c)] [.slice] fun r60 =>
                  C.st 1 (x0.add 0) (.slice r52.a r52.n r52.c) <|
                  C.st 1 (x0.add 1) (.slice r60.a r60.n r60.c) <|
                  C.ld .agg 32 (Addr.mk b6 0 none) fun v65 =>
                  C.st 32 (Addr.mk b4 0 none) (.agg v65) <|
                  C.ld .agg 32 (Addr.mk b4 0 none) fun z36 =>
                  C.ret (.tuple #[(.agg z36), (.int .i64 0)])),
                 (C.sem (Instr.buildSlice ty_sl_impl_Blob 1 #[(0, (.agg v58))]) .slice fun y59 =>
                  C.chk [⟨13, 1, (x0.add 1), .slice, v56⟩, ⟨5, 1, (x0.add 0), .slice, v48⟩] <|
                  C.call n_slices_Insert_sl_impl_Key_impl_Key [(.slice v48.a v48.n v48.c), (.int .i64 r14.1), (.slice y51.a y51.n y51.c)] [.slice] fun r52 =>
                  C.chk [⟨13, 1, (x0.add 1), .slice, v56⟩] <|
                  C.call n_slices_Insert_sl_impl_Blob_impl_Blob [(.slice v56.a v56.n v56.c), (.int .i64 r14.1), (.slice y59.a y59.n y59.c)] [.slice] fun r60 =>
                  C.st 1 (x0.add 0) (.slice r52.a r52.n r52.c) <|
                  C.st 1 (x0.add 1) (.slice r60.a r60.n r60.c) <|
                  C.ld .agg 32 (Addr.mk b6 0 none) fun v65 =>
                  C.st 32 (Addr.mk b4 0 none) (.agg v65) <|
                  C.ld .agg 32 (Addr.mk b4 0 none) fun z41 =>
                  C.ret (.tuple #[(.agg z41), (.int .i64 0)]))]),
              (C.sem (Instr.buildSlice ty_sl_impl_Blob 1 #[(0, (.agg v58))]) .slice fun y59 =>
               C.chk [⟨13, 1, (x0.add 1), .slice, v56⟩, ⟨7, 32, (Addr.mk b6 0 none), .agg, v50⟩, ⟨5, 1, (x0.add 0), .slice, v48⟩] <|
               C.sem (Instr.buildSlice ty_sl_impl_Key 1 #[(0, (.agg v50))]) .slice fun y51 =>
               C.chk [⟨13, 1, (x0.add 1), .slice, v56⟩, ⟨5, 1, (x0.add 0), .slice, v48⟩] <|
               C.call n_slices_Insert_sl_impl_Key_impl_Key [(.slice v48.a v48.n v48.c), (.int .i64 r14.1), (.slice y51.a y51.n y51.c)] [.slice] fun r52 =>
               C.chk [⟨13, 1, (x0.add 1), .slice, v56⟩] <|
               C.call n_slices_Insert_sl_impl_Blob_impl_Blob [(.slice v56.a v56.n v56.c), (.int .i64 r14.1), (.slice y59.a y59.n y59.c)] [.slice] fun r60 =>
               C.st 1 (x0.add 0) (.slice r52.a r52.n r52.c) <|
               C.st 1 (x0.add 1) (.slice r60.a r60.n r60.c) <|
               C.ld .agg 32 (Addr.mk b6 0 none) fun v65 =>
               C.st 32 (Addr.mk b4 0 none) (.agg v65) <|
               C.ld .agg 32 (Addr.mk b4 0 none) fun z47 =>
               C.ret (.tuple #[(.agg z47), (.int .i64 0)]))]
          )
        )
      )
    ) fun jt =>
  C.draw <|
  cond r14.2 (
    C.all [
      (C.ld .slice 1 (x0.add 1) fun v23 =>
       C.ix v23.a v23.n 2 r14.1 fun p25 =>
       C.all [
         (C.ld .agg 2 p25 fun v26 =>
          C.ld .agg 2 (Addr.mk b3 0 none) fun v27 =>
          C.call n_impl_SameBlob [(.agg v26), (.agg v27)] [.bool] fun r28 =>
          jt [(.bool (!r28))]),
         (C.ld .agg 2 (Addr.mk b3 0 none) fun v27 =>
          C.ld .agg 2 p25 fun v26 =>
          C.call n_impl_SameBlob [(.agg v26), (.agg v27)] [.bool] fun r28 =>
          jt [(.bool (!r28))])]),
      (C.ld .agg 2 (Addr.mk b3 0 none) fun v27 =>
       C.ld .slice 1 (x0.add 1) fun v23 =>
       C.ix v23.a v23.n 2 r14.1 fun p25 =>
       C.ld .agg 2 p25 fun v26 =>
       C.call n_impl_SameBlob [(.agg v26), (.agg v27)] [.bool] fun r28 =>
       jt [(.bool (!r28))])]
  ) (
    C.all [
      (C.all [
         (jt [(.bool false)]),
         (jt [(.bool false)])]),
      (jt [(.bool false)])]
  )
theorem ptr_impl_shop_put_eq (C : Comb) (x0 : Addr) (x1 : Array Value) : fT C Tryz.prog { loop := [], join := [(10, [(17, .bool)])], anyOrder := [3, 9], pure := [] } n_ptr_impl_shop_put [(.pointer (some x0)), (.agg x1)] = ptr_impl_shop_put C x0 x1 := by kernel_rfl
theorem ptr_impl_shop_put_calls {R : Value → World → Prop} {w : World} (x0 : Addr) (x1 : Array Value) (h : (ptr_impl_shop_put (real Tryz.prog R) x0 x1 : World → Prop) w) :
    Calls Tryz.prog n_ptr_impl_shop_put [(.pointer (some x0)), (.agg x1)].toArray w fun e w' => ∃ v, e = .returned v ∧ R v w' := fT_sound mixed { loop := [], join := [(10, [(17, .bool)])], anyOrder := [3, 9], pure := [] } (by rw [ptr_impl_shop_put_eq]; exact h)

/-- (*impl.shop).store (87) -/
def ptr_impl_shop_store (C : Comb) (x0 : Addr) : C.St :=
  C.new ty_impl_Store (.agg (#[(.slice none 0 0)])) fun b2 =>
  C.pur (Instr.build ty_impl_Store #[]) .agg fun y6 =>
  C.new ty_impl_Store (.agg (#[(.slice none 0 0)])) fun b3 =>
  C.st 1 (Addr.mk b3 0 none) (.agg y6) <|
  C.ld .slice 1 (x0.add 1) fun v10 =>
  C.loop (TL [(.int .i64)]) (embL [(.int .i64)]) [(.int .i64 0)] fun s5 ct5 => C.any fun _ =>
  cond (decide (s5 < (v10.n : Int))) (
    C.ix v10.a v10.n 2 s5 fun p14 =>
    C.ld .agg 2 p14 fun v15 =>
    C.new ty_impl_Blob (.agg (#[(.int .u8 0), (.slice none 0 0)])) fun b5 =>
    C.st 2 (Addr.mk b5 0 none) (.agg v15) <|
    C.draw <|
    C.ld .slice 1 ((Addr.mk b3 0 none).add 0) fun v17 =>
    C.ld .agg 2 (Addr.mk b5 0 none) fun v18 =>
    C.call n_impl_Blob_copied [(.agg v18)] [.agg] fun r19 =>
    C.chk [⟨1, 1, ((Addr.mk b3 0 none).add 0), .slice, v17⟩] <|
    C.sem (Instr.buildSlice ty_sl_impl_Blob 1 #[(0, (.agg r19))]) .slice fun y20 =>
    C.chk [⟨1, 1, ((Addr.mk b3 0 none).add 0), .slice, v17⟩] <|
    C.sem (Builtin.append_ #[ty_sl_impl_Blob, ty_sl_impl_Blob] ty_sl_impl_Blob #[(.slice v17.a v17.n v17.c), (.slice y20.a y20.n y20.c)]) .slice fun y21 =>
    C.st 1 ((Addr.mk b3 0 none).add 0) (.slice y21.a y21.n y21.c) <|
    ct5 [(.int .i64 (IntKind.wrap .i64 (s5 + 1)))]
  ) (
    C.ld .agg 1 (Addr.mk b3 0 none) fun v24 =>
    C.st 1 (Addr.mk b2 0 none) (.agg v24) <|
    C.ld .agg 1 (Addr.mk b2 0 none) fun z15 =>
    C.ret (.agg z15)
  )
theorem ptr_impl_shop_store_eq (C : Comb) (x0 : Addr) : fT C Tryz.prog { loop := [(3, [(12, (.int .i64))])], join := [], anyOrder := [5], pure := [] } n_ptr_impl_shop_store [(.pointer (some x0))] = ptr_impl_shop_store C x0 := by kernel_rfl
theorem ptr_impl_shop_store_calls {R : Value → World → Prop} {w : World} (x0 : Addr) (h : (ptr_impl_shop_store (real Tryz.prog R) x0 : World → Prop) w) :
    Calls Tryz.prog n_ptr_impl_shop_store [(.pointer (some x0))].toArray w fun e w' => ∃ v, e = .returned v ∧ R v w' := fT_sound mixed { loop := [(3, [(12, (.int .i64))])], join := [], anyOrder := [5], pure := [] } (by rw [ptr_impl_shop_store_eq]; exact h)

/-- laws.heldByteS (88) -/
def laws_heldByteS (C : Comb) (x0 : Sl) (x1 : Int) : C.St :=
  C.loop (TL [(.int .i64), (.int .i64)]) (embL [(.int .i64), (.int .i64)]) [(.int .i64 x1), (.int .i64 0)] fun s1 ct1 => C.any fun _ =>
  cond (decide (s1.2 < (x0.n : Int))) (
    C.ix x0.a x0.n 1 s1.2 fun p14 =>
    C.ld (.int .u8) 1 p14 fun v15 =>
    cond (v15 != (IntKind.wrap .u8 (s1.1))) (
      C.ret (.int .i64 (-1))
    ) (
      ct1 [(.int .i64 (IntKind.wrap .i64 (s1.1 + 1))), (.int .i64 (IntKind.wrap .i64 (s1.2 + 1)))]
    )
  ) (
    C.ret (.int .i64 s1.1)
  )
theorem laws_heldByteS_eq (C : Comb) (x0 : Sl) (x1 : Int) : fT C Tryz.prog { loop := [(2, [(1, (.int .i64)), (5, (.int .i64))])], join := [], anyOrder := [], pure := [] } n_laws_heldByteS [(.slice x0.a x0.n x0.c), (.int .i64 x1)] = laws_heldByteS C x0 x1 := by kernel_rfl
theorem laws_heldByteS_calls {R : Value → World → Prop} {w : World} (x0 : Sl) (x1 : Int) (h : (laws_heldByteS (real Tryz.prog R) x0 x1 : World → Prop) w) :
    Calls Tryz.prog n_laws_heldByteS [(.slice x0.a x0.n x0.c), (.int .i64 x1)].toArray w fun e w' => ∃ v, e = .returned v ∧ R v w' := fT_sound mixed { loop := [(2, [(1, (.int .i64)), (5, (.int .i64))])], join := [], anyOrder := [], pure := [] } (by rw [laws_heldByteS_eq]; exact h)

/-- spec.l05Copy (89) -/
def spec_l05Copy (C : Comb) (x0 : Array Value) : C.St :=
  C.new ty_impl_Blob (.agg x0) fun b1 =>
  C.new ty_impl_Blob (.agg (#[(.int .u8 0), (.slice none 0 0)])) fun b2 =>
  C.draw <|
  C.ld (.int .u8) 1 ((Addr.mk b1 0 none).add 0) fun v4 =>
  C.ld .slice 1 ((Addr.mk b1 0 none).add 1) fun v7 =>
  C.sem (Instr.buildSlice ty_sl_uint8 0 #[]) .slice fun y5 =>
  C.chk [⟨4, 1, ((Addr.mk b1 0 none).add 1), .slice, v7⟩, ⟨1, 1, ((Addr.mk b1 0 none).add 0), (.int .u8), v4⟩] <|
  C.sem (Builtin.append_ #[ty_sl_uint8, ty_sl_uint8] ty_sl_uint8 #[(.slice y5.a y5.n y5.c), (.slice v7.a v7.n v7.c)]) .slice fun y8 =>
  C.chk [⟨1, 1, ((Addr.mk b1 0 none).add 0), (.int .u8), v4⟩] <|
  C.pur (Instr.build ty_impl_Blob #[(0, (.int .u8 v4)), (1, (.slice y8.a y8.n y8.c))]) .agg fun y9 =>
  C.st 2 (Addr.mk b2 0 none) (.agg y9) <|
  C.ld .agg 2 (Addr.mk b2 0 none) fun z8 =>
  C.ret (.agg z8)
theorem spec_l05Copy_eq (C : Comb) (x0 : Array Value) : fT C Tryz.prog { loop := [], join := [], anyOrder := [1], pure := [] } n_spec_l05Copy [(.agg x0)] = spec_l05Copy C x0 := by kernel_rfl
theorem spec_l05Copy_calls {R : Value → World → Prop} {w : World} (x0 : Array Value) (h : (spec_l05Copy (real Tryz.prog R) x0 : World → Prop) w) :
    Calls Tryz.prog n_spec_l05Copy [(.agg x0)].toArray w fun e w' => ∃ v, e = .returned v ∧ R v w' := fT_sound mixed { loop := [], join := [], anyOrder := [1], pure := [] } (by rw [spec_l05Copy_eq]; exact h)

/-- bytes.Equal (90) -/
def bytes_Equal (C : Comb) (x0 : Sl) (x1 : Sl) : C.St :=
  C.sem (convert ty_sl_uint8 ty_string (.slice x0.a x0.n x0.c)) .str fun y6 =>
  C.sem (convert ty_sl_uint8 ty_string (.slice x1.a x1.n x1.c)) .str fun y8 =>
  C.pur (eqB .eql ty_string (.tmp 6) (.tmp 8) (.string y6) (.string y8)) .bool fun y9 =>
  C.ret (.bool y9)
theorem bytes_Equal_eq (C : Comb) (x0 : Sl) (x1 : Sl) : fT C Tryz.prog { loop := [], join := [], anyOrder := [], pure := [] } n_bytes_Equal [(.slice x0.a x0.n x0.c), (.slice x1.a x1.n x1.c)] = bytes_Equal C x0 x1 := by kernel_rfl
theorem bytes_Equal_calls {R : Value → World → Prop} {w : World} (x0 : Sl) (x1 : Sl) (h : (bytes_Equal (real Tryz.prog R) x0 x1 : World → Prop) w) :
    Calls Tryz.prog n_bytes_Equal [(.slice x0.a x0.n x0.c), (.slice x1.a x1.n x1.c)].toArray w fun e w' => ∃ v, e = .returned v ∧ R v w' := fT_sound mixed { loop := [], join := [], anyOrder := [], pure := [] } (by rw [bytes_Equal_eq]; exact h)

/-- spec.l05Keys (91) -/
def spec_l05Keys (C : Comb) (x0 : Sl) (x1 : Int) (x2 : Int) : C.St :=
  C.sem (Instr.buildSlice ty_sl_impl_Key 0 #[]) .slice fun y11 =>
  C.loop (TL [.slice, (.int .i64)]) (embL [.slice, (.int .i64)]) [(.slice y11.a y11.n y11.c), (.int .i64 0)] fun s2 ct2 => C.any fun _ =>
  cond (decide (s2.2 < x2)) (
    C.new ty_impl_Key (.agg (Array.replicate 32 (.int .u8 0))) fun b9 =>
    C.st 32 (Addr.mk b9 0 none) (.agg (Array.replicate 32 (.int .u8 0))) <|
    C.loop (TL [(.int .i64)]) (embL [(.int .i64)]) [(.int .i64 0)] fun s4 ct4 => C.any fun _ =>
    cond (decide (s4 < 32)) (
      C.ix x0.a x0.n 1 (IntKind.wrap .i64 ((IntKind.wrap .i64 (x1 + (IntKind.wrap .i64 (32 * s2.2)))) + s4)) fun p30 =>
      C.ld (.int .u8) 1 p30 fun v31 =>
      C.ix (some (Addr.mk b9 0 none)) 32 1 s4 fun p32 =>
      C.st 1 p32 (.int .u8 v31) <|
      ct4 [(.int .i64 (IntKind.wrap .i64 (s4 + 1)))]
    ) (
      C.ld .agg 32 (Addr.mk b9 0 none) fun v34 =>
      C.sem (Instr.buildSlice ty_sl_impl_Key 1 #[(0, (.agg v34))]) .slice fun y35 =>
      C.sem (Builtin.append_ #[ty_sl_impl_Key, ty_sl_impl_Key] ty_sl_impl_Key #[(.slice s2.1.a s2.1.n s2.1.c), (.slice y35.a y35.n y35.c)]) .slice fun y36 =>
      ct2 [(.slice y36.a y36.n y36.c), (.int .i64 (IntKind.wrap .i64 (s2.2 + 1)))]
    )
  ) (
    C.ret (.slice s2.1.a s2.1.n s2.1.c)
  )
theorem spec_l05Keys_eq (C : Comb) (x0 : Sl) (x1 : Int) (x2 : Int) : fT C Tryz.prog { loop := [(3, [(7, .slice), (8, (.int .i64))]), (7, [(10, (.int .i64))])], join := [], anyOrder := [], pure := [] } n_spec_l05Keys [(.slice x0.a x0.n x0.c), (.int .i64 x1), (.int .i64 x2)] = spec_l05Keys C x0 x1 x2 := by kernel_rfl
theorem spec_l05Keys_calls {R : Value → World → Prop} {w : World} (x0 : Sl) (x1 : Int) (x2 : Int) (h : (spec_l05Keys (real Tryz.prog R) x0 x1 x2 : World → Prop) w) :
    Calls Tryz.prog n_spec_l05Keys [(.slice x0.a x0.n x0.c), (.int .i64 x1), (.int .i64 x2)].toArray w fun e w' => ∃ v, e = .returned v ∧ R v w' := fT_sound mixed { loop := [(3, [(7, .slice), (8, (.int .i64))]), (7, [(10, (.int .i64))])], join := [], anyOrder := [], pure := [] } (by rw [spec_l05Keys_eq]; exact h)

/-- spec.l04Read (92) -/
def spec_l04Read (C : Comb) (x0 : Sl) : C.St :=
  C.new ty_impl_MapNode (.agg (#[(.int .u8 0), (.int .u8 0), (.int .u8 0), (.int .u8 0), (.int .u8 0), (.int .u8 0), (.int .u8 0), (.int .u8 0), (.int .u8 0), (.int .u8 0), (.int .u8 0), (.int .u8 0), (.int .u8 0), (.int .u8 0), (.int .u8 0), (.int .u8 0), (.int .u8 0), (.int .u8 0), (.int .u8 0), (.int .u8 0), (.int .u8 0), (.int .u8 0), (.int .u8 0), (.int .u8 0), (.int .u8 0), (.int .u8 0), (.int .u8 0), (.int .u8 0), (.int .u8 0), (.int .u8 0), (.int .u8 0), (.int .u8 0), (.int .u8 0), (.int .u8 0), (.int .u8 0), (.int .u8 0), (.int .u8 0), (.int .u8 0), (.int .u8 0), (.int .u8 0), (.int .u8 0), (.int .u8 0), (.int .u8 0), (.int .u8 0), (.int .u8 0), (.int .u8 0), (.int .u8 0), (.int .u8 0), (.int .u8 0), (.int .u8 0), (.int .u8 0), (.int .u8 0), (.int .u8 0), (.int .u8 0), (.int .u8 0), (.int .u8 0), (.int .u8 0), (.int .u8 0), (.int .u8 0), (.int .u8 0), (.int .u8 0), (.int .u8 0), (.int .u8 0), (.int .u8 0), (.string (⟨#[]⟩ : ByteArray)), (.string (⟨#[]⟩ : ByteArray))])) fun b2 =>
  C.pur (Instr.build ty_impl_MapNode #[]) .agg fun y7 =>
  C.new ty_impl_MapNode (.agg (#[(.int .u8 0), (.int .u8 0), (.int .u8 0), (.int .u8 0), (.int .u8 0), (.int .u8 0), (.int .u8 0), (.int .u8 0), (.int .u8 0), (.int .u8 0), (.int .u8 0), (.int .u8 0), (.int .u8 0), (.int .u8 0), (.int .u8 0), (.int .u8 0), (.int .u8 0), (.int .u8 0), (.int .u8 0), (.int .u8 0), (.int .u8 0), (.int .u8 0), (.int .u8 0), (.int .u8 0), (.int .u8 0), (.int .u8 0), (.int .u8 0), (.int .u8 0), (.int .u8 0), (.int .u8 0), (.int .u8 0), (.int .u8 0), (.int .u8 0), (.int .u8 0), (.int .u8 0), (.int .u8 0), (.int .u8 0), (.int .u8 0), (.int .u8 0), (.int .u8 0), (.int .u8 0), (.int .u8 0), (.int .u8 0), (.int .u8 0), (.int .u8 0), (.int .u8 0), (.int .u8 0), (.int .u8 0), (.int .u8 0), (.int .u8 0), (.int .u8 0), (.int .u8 0), (.int .u8 0), (.int .u8 0), (.int .u8 0), (.int .u8 0), (.int .u8 0), (.int .u8 0), (.int .u8 0), (.int .u8 0), (.int .u8 0), (.int .u8 0), (.int .u8 0), (.int .u8 0), (.string (⟨#[]⟩ : ByteArray)), (.string (⟨#[]⟩ : ByteArray))])) fun b4 =>
  C.st 66 (Addr.mk b4 0 none) (.agg y7) <|
  C.join (TL []) (embL []) (fun s8 => C.any fun _ =>
      C.ix x0.a x0.n 1 64 fun p18 =>
      C.ld (.int .u8) 1 p18 fun v19 =>
      cond (decide ((x0.n : Int) < (IntKind.wrap .i64 (65 + (IntKind.wrap .i64 (v19)))))) (
        C.ld .agg 66 (Addr.mk b4 0 none) fun v26 =>
        C.st 66 (Addr.mk b2 0 none) (.agg v26) <|
        C.ld .agg 66 (Addr.mk b2 0 none) fun z12 =>
        C.ret (.tuple #[(.agg z12), (.bool false)])
      ) (
        C.loop (TL [(.int .i64)]) (embL [(.int .i64)]) [(.int .i64 0)] fun s13 ct13 => C.any fun _ =>
        cond (decide (s13 < 32)) (
          C.ix x0.a x0.n 1 s13 fun p34 =>
          C.ld (.int .u8) 1 p34 fun v35 =>
          C.ix (some ((Addr.mk b4 0 none).add 0)) 32 1 s13 fun p37 =>
          C.st 1 p37 (.int .u8 v35) <|
          C.ix x0.a x0.n 1 (IntKind.wrap .i64 (32 + s13)) fun p42 =>
          C.ld (.int .u8) 1 p42 fun v43 =>
          C.ix (some ((Addr.mk b4 0 none).add 32)) 32 1 s13 fun p45 =>
          C.st 1 p45 (.int .u8 v43) <|
          ct13 [(.int .i64 (IntKind.wrap .i64 (s13 + 1)))]
        ) (
          C.draw <|
          C.sl x0.a x0.n x0.c 1 (some 65) (some (IntKind.wrap .i64 (65 + (IntKind.wrap .i64 (v19))))) none fun y49 =>
          C.sl x0.a x0.n x0.c 1 (some (IntKind.wrap .i64 (65 + (IntKind.wrap .i64 (v19))))) none none fun y54 =>
          C.all [
            (C.sem (convert ty_sl_uint8 ty_string (.slice y49.a y49.n y49.c)) .str fun y50 =>
             C.sem (convert ty_sl_uint8 ty_string (.slice y54.a y54.n y54.c)) .str fun y55 =>
             C.pur (Instr.build ty_impl_Entry #[(0, (.string y50)), (1, (.string y55))]) .agg fun y56 =>
             C.st 2 ((Addr.mk b4 0 none).add 64) (.agg y56) <|
             C.draw <|
             C.ld .agg 66 (Addr.mk b4 0 none) fun v58 =>
             C.call n_spec_l04Entry [(.pointer (some ((Addr.mk b4 0 none).add 64)))] [.bool] fun r60 =>
             C.chk [⟨0, 66, (Addr.mk b4 0 none), .agg, v58⟩] <|
             C.st 66 (Addr.mk b2 0 none) (.agg v58) <|
             C.ld .agg 66 (Addr.mk b2 0 none) fun z27 =>
             C.ret (.tuple #[(.agg z27), (.bool r60)])),
            (C.sem (convert ty_sl_uint8 ty_string (.slice y54.a y54.n y54.c)) .str fun y55 =>
             C.sem (convert ty_sl_uint8 ty_string (.slice y49.a y49.n y49.c)) .str fun y50 =>
             C.pur (Instr.build ty_impl_Entry #[(0, (.string y50)), (1, (.string y55))]) .agg fun y56 =>
             C.st 2 ((Addr.mk b4 0 none).add 64) (.agg y56) <|
             C.draw <|
             C.ld .agg 66 (Addr.mk b4 0 none) fun v58 =>
             C.call n_spec_l04Entry [(.pointer (some ((Addr.mk b4 0 none).add 64)))] [.bool] fun r60 =>
             C.chk [⟨0, 66, (Addr.mk b4 0 none), .agg, v58⟩] <|
             C.st 66 (Addr.mk b2 0 none) (.agg v58) <|
             C.ld .agg 66 (Addr.mk b2 0 none) fun z33 =>
             C.ret (.tuple #[(.agg z33), (.bool r60)]))]
        )
      )
    ) fun jt =>
  cond (decide ((x0.n : Int) < 66)) (
    C.ld .agg 66 (Addr.mk b4 0 none) fun v16 =>
    C.st 66 (Addr.mk b2 0 none) (.agg v16) <|
    C.ld .agg 66 (Addr.mk b2 0 none) fun z5 =>
    C.ret (.tuple #[(.agg z5), (.bool false)])
  ) (
    cond (decide ((x0.n : Int) > 153)) (
      C.ld .agg 66 (Addr.mk b4 0 none) fun v16 =>
      C.st 66 (Addr.mk b2 0 none) (.agg v16) <|
      C.ld .agg 66 (Addr.mk b2 0 none) fun z7 =>
      C.ret (.tuple #[(.agg z7), (.bool false)])
    ) (
      jt []
    )
  )
theorem spec_l04Read_eq (C : Comb) (x0 : Sl) : fT C Tryz.prog { loop := [(8, [(6, (.int .i64))])], join := [(45, [])], anyOrder := [12, 13], pure := [] } n_spec_l04Read [(.slice x0.a x0.n x0.c)] = spec_l04Read C x0 := by kernel_rfl
theorem spec_l04Read_calls {R : Value → World → Prop} {w : World} (x0 : Sl) (h : (spec_l04Read (real Tryz.prog R) x0 : World → Prop) w) :
    Calls Tryz.prog n_spec_l04Read [(.slice x0.a x0.n x0.c)].toArray w fun e w' => ∃ v, e = .returned v ∧ R v w' := fT_sound mixed { loop := [(8, [(6, (.int .i64))])], join := [(45, [])], anyOrder := [12, 13], pure := [] } (by rw [spec_l04Read_eq]; exact h)

/-- spec.l04Empty (93) -/
def spec_l04Empty (C : Comb)  : C.St :=
  C.new ty_impl_Key (.agg (Array.replicate 32 (.int .u8 0))) fun b0 =>
  C.sem (Instr.buildSlice ty_sl_uint8 0 #[]) .slice fun y1 =>
  C.call n_spec_l01Hash [(.int .u8 5), (.slice y1.a y1.n y1.c)] [.agg] fun r2 =>
  C.st 32 (Addr.mk b0 0 none) (.agg r2) <|
  C.ld .agg 32 (Addr.mk b0 0 none) fun z4 =>
  C.ret (.agg z4)
theorem spec_l04Empty_eq (C : Comb)  : fT C Tryz.prog { loop := [], join := [], anyOrder := [], pure := [] } n_spec_l04Empty [] = spec_l04Empty C  := by kernel_rfl
theorem spec_l04Empty_calls {R : Value → World → Prop} {w : World}  (h : (spec_l04Empty (real Tryz.prog R)  : World → Prop) w) :
    Calls Tryz.prog n_spec_l04Empty [].toArray w fun e w' => ∃ v, e = .returned v ∧ R v w' := fT_sound mixed { loop := [], join := [], anyOrder := [], pure := [] } (by rw [spec_l04Empty_eq]; exact h)

/-- impl.keysIn (94) -/
def impl_keysIn (C : Comb) (x0 : Sl) : C.St :=
  C.sem (Instr.buildSlice ty_sl_impl_Key 0 #[]) .slice fun y4 =>
  C.loop (TL [.slice, .slice]) (embL [.slice, .slice]) [(.slice x0.a x0.n x0.c), (.slice y4.a y4.n y4.c)] fun s2 ct2 => C.any fun _ =>
  cond (decide ((s2.1.n : Int) ≥ 32)) (
    C.pur (Instr.arrayAt ty_impl_Key (.slice s2.1.a s2.1.n s2.1.c)) .ptr fun y10 =>
    C.ld .agg 32 y10 fun v11 =>
    C.sem (Instr.buildSlice ty_sl_impl_Key 1 #[(0, (.agg v11))]) .slice fun y12 =>
    C.sem (Builtin.append_ #[ty_sl_impl_Key, ty_sl_impl_Key] ty_sl_impl_Key #[(.slice s2.2.a s2.2.n s2.2.c), (.slice y12.a y12.n y12.c)]) .slice fun y13 =>
    C.sl s2.1.a s2.1.n s2.1.c 1 (some 32) none none fun y15 =>
    ct2 [(.slice y15.a y15.n y15.c), (.slice y13.a y13.n y13.c)]
  ) (
    C.ret (.slice s2.2.a s2.2.n s2.2.c)
  )
theorem impl_keysIn_eq (C : Comb) (x0 : Sl) : fT C Tryz.prog { loop := [(2, [(0, .slice), (3, .slice)])], join := [], anyOrder := [], pure := [] } n_impl_keysIn [(.slice x0.a x0.n x0.c)] = impl_keysIn C x0 := by kernel_rfl
theorem impl_keysIn_calls {R : Value → World → Prop} {w : World} (x0 : Sl) (h : (impl_keysIn (real Tryz.prog R) x0 : World → Prop) w) :
    Calls Tryz.prog n_impl_keysIn [(.slice x0.a x0.n x0.c)].toArray w fun e w' => ∃ v, e = .returned v ∧ R v w' := fT_sound mixed { loop := [(2, [(0, .slice), (3, .slice)])], join := [], anyOrder := [], pure := [] } (by rw [impl_keysIn_eq]; exact h)

/-- impl.ReadMapNode (95) -/
def impl_ReadMapNode (C : Comb) (x0 : Sl) : C.St :=
  C.new ty_impl_MapNode (.agg (#[(.int .u8 0), (.int .u8 0), (.int .u8 0), (.int .u8 0), (.int .u8 0), (.int .u8 0), (.int .u8 0), (.int .u8 0), (.int .u8 0), (.int .u8 0), (.int .u8 0), (.int .u8 0), (.int .u8 0), (.int .u8 0), (.int .u8 0), (.int .u8 0), (.int .u8 0), (.int .u8 0), (.int .u8 0), (.int .u8 0), (.int .u8 0), (.int .u8 0), (.int .u8 0), (.int .u8 0), (.int .u8 0), (.int .u8 0), (.int .u8 0), (.int .u8 0), (.int .u8 0), (.int .u8 0), (.int .u8 0), (.int .u8 0), (.int .u8 0), (.int .u8 0), (.int .u8 0), (.int .u8 0), (.int .u8 0), (.int .u8 0), (.int .u8 0), (.int .u8 0), (.int .u8 0), (.int .u8 0), (.int .u8 0), (.int .u8 0), (.int .u8 0), (.int .u8 0), (.int .u8 0), (.int .u8 0), (.int .u8 0), (.int .u8 0), (.int .u8 0), (.int .u8 0), (.int .u8 0), (.int .u8 0), (.int .u8 0), (.int .u8 0), (.int .u8 0), (.int .u8 0), (.int .u8 0), (.int .u8 0), (.int .u8 0), (.int .u8 0), (.int .u8 0), (.int .u8 0), (.string (⟨#[]⟩ : ByteArray)), (.string (⟨#[]⟩ : ByteArray))])) fun b2 =>
  C.join (TL []) (embL []) (fun s8 => C.any fun _ =>
      C.ix x0.a x0.n 1 64 fun p21 =>
      C.ld (.int .u8) 1 p21 fun v22 =>
      C.join (TL [.ptr]) (embL [.ptr]) (fun s45 => C.any fun _ =>
          C.ld .agg 2 (s45.add 64) fun v43 =>
          C.call n_impl_ValidEntry [(.agg v43)] [.bool] fun r44 =>
          cond (!r44) (
            C.pur (Instr.build ty_impl_MapNode #[]) .agg fun y46 =>
            C.st 66 (Addr.mk b2 0 none) (.agg y46) <|
            C.ld .agg 66 (Addr.mk b2 0 none) fun z49 =>
            C.ret (.tuple #[(.agg z49), (.int .i64 5)])
          ) (
            C.ld .agg 66 s45 fun v47 =>
            C.st 66 (Addr.mk b2 0 none) (.agg v47) <|
            C.ld .agg 66 (Addr.mk b2 0 none) fun z51 =>
            C.ret (.tuple #[(.agg z51), (.int .i64 0)])
          )
        ) fun jt =>
      C.draw <|
      C.pur (Instr.arrayAt ty_impl_Key (.slice x0.a x0.n x0.c)) .ptr fun y26 =>
      C.ld .agg 32 y26 fun v27 =>
      C.sl x0.a x0.n x0.c 1 (some 32) none none fun y29 =>
      C.pur (Instr.arrayAt ty_impl_Key (.slice y29.a y29.n y29.c)) .ptr fun y30 =>
      C.ld .agg 32 y30 fun v31 =>
      C.sl x0.a x0.n x0.c 1 (some 65) (some (IntKind.wrap .i64 (65 + (IntKind.wrap .i64 (v22))))) none fun y34 =>
      C.sl x0.a x0.n x0.c 1 (some (IntKind.wrap .i64 (65 + (IntKind.wrap .i64 (v22))))) none none fun y38 =>
      C.all [
        (C.sem (convert ty_sl_uint8 ty_string (.slice y34.a y34.n y34.c)) .str fun y35 =>
         C.chk [⟨6, 32, y30, .agg, v31⟩, ⟨2, 32, y26, .agg, v27⟩] <|
         C.all [
           (C.sem (convert ty_sl_uint8 ty_string (.slice y38.a y38.n y38.c)) .str fun y39 =>
            C.chk [⟨6, 32, y30, .agg, v31⟩, ⟨2, 32, y26, .agg, v27⟩] <|
            C.pur (Instr.build ty_impl_Entry #[(0, (.string y35)), (1, (.string y39))]) .agg fun y40 =>
            C.pur (Instr.build ty_impl_MapNode #[(0, (.agg v27)), (1, (.agg v31)), (2, (.agg y40))]) .agg fun y41 =>
            C.new ty_impl_MapNode (.agg (#[(.int .u8 0), (.int .u8 0), (.int .u8 0), (.int .u8 0), (.int .u8 0), (.int .u8 0), (.int .u8 0), (.int .u8 0), (.int .u8 0), (.int .u8 0), (.int .u8 0), (.int .u8 0), (.int .u8 0), (.int .u8 0), (.int .u8 0), (.int .u8 0), (.int .u8 0), (.int .u8 0), (.int .u8 0), (.int .u8 0), (.int .u8 0), (.int .u8 0), (.int .u8 0), (.int .u8 0), (.int .u8 0), (.int .u8 0), (.int .u8 0), (.int .u8 0), (.int .u8 0), (.int .u8 0), (.int .u8 0), (.int .u8 0), (.int .u8 0), (.int .u8 0), (.int .u8 0), (.int .u8 0), (.int .u8 0), (.int .u8 0), (.int .u8 0), (.int .u8 0), (.int .u8 0), (.int .u8 0), (.int .u8 0), (.int .u8 0), (.int .u8 0), (.int .u8 0), (.int .u8 0), (.int .u8 0), (.int .u8 0), (.int .u8 0), (.int .u8 0), (.int .u8 0), (.int .u8 0), (.int .u8 0), (.int .u8 0), (.int .u8 0), (.int .u8 0), (.int .u8 0), (.int .u8 0), (.int .u8 0), (.int .u8 0), (.int .u8 0), (.int .u8 0), (.int .u8 0), (.string (⟨#[]⟩ : ByteArray)), (.string (⟨#[]⟩ : ByteArray))])) fun b5 =>
            C.chk [⟨6, 32, y30, .agg, v31⟩, ⟨2, 32, y26, .agg, v27⟩] <|
            C.st 66 (Addr.mk b5 0 none) (.agg y41) <|
            jt [(.pointer (some (Addr.mk b5 0 none)))]),
           (C.new ty_impl_MapNode (.agg (#[(.int .u8 0), (.int .u8 0), (.int .u8 0), (.int .u8 0), (.int .u8 0), (.int .u8 0), (.int .u8 0), (.int .u8 0), (.int .u8 0), (.int .u8 0), (.int .u8 0), (.int .u8 0), (.int .u8 0), (.int .u8 0), (.int .u8 0), (.int .u8 0), (.int .u8 0), (.int .u8 0), (.int .u8 0), (.int .u8 0), (.int .u8 0), (.int .u8 0), (.int .u8 0), (.int .u8 0), (.int .u8 0), (.int .u8 0), (.int .u8 0), (.int .u8 0), (.int .u8 0), (.int .u8 0), (.int .u8 0), (.int .u8 0), (.int .u8 0), (.int .u8 0), (.int .u8 0), (.int .u8 0), (.int .u8 0), (.int .u8 0), (.int .u8 0), (.int .u8 0), (.int .u8 0), (.int .u8 0), (.int .u8 0), (.int .u8 0), (.int .u8 0), (.int .u8 0), (.int .u8 0), (.int .u8 0), (.int .u8 0), (.int .u8 0), (.int .u8 0), (.int .u8 0), (.int .u8 0), (.int .u8 0), (.int .u8 0), (.int .u8 0), (.int .u8 0), (.int .u8 0), (.int .u8 0), (.int .u8 0), (.int .u8 0), (.int .u8 0), (.int .u8 0), (.int .u8 0), (.string (⟨#[]⟩ : ByteArray)), (.string (⟨#[]⟩ : ByteArray))])) fun b5 =>
            C.chk [⟨6, 32, y30, .agg, v31⟩, ⟨2, 32, y26, .agg, v27⟩] <|
            C.sem (convert ty_sl_uint8 ty_string (.slice y38.a y38.n y38.c)) .str fun y39 =>
            C.chk [⟨6, 32, y30, .agg, v31⟩, ⟨2, 32, y26, .agg, v27⟩] <|
            C.pur (Instr.build ty_impl_Entry #[(0, (.string y35)), (1, (.string y39))]) .agg fun y40 =>
            C.pur (Instr.build ty_impl_MapNode #[(0, (.agg v27)), (1, (.agg v31)), (2, (.agg y40))]) .agg fun y41 =>
            C.st 66 (Addr.mk b5 0 none) (.agg y41) <|
            jt [(.pointer (some (Addr.mk b5 0 none)))])]),
        (C.sem (convert ty_sl_uint8 ty_string (.slice y38.a y38.n y38.c)) .str fun y39 =>
         C.chk [⟨6, 32, y30, .agg, v31⟩, ⟨2, 32, y26, .agg, v27⟩] <|
         C.all [
           (C.sem (convert ty_sl_uint8 ty_string (.slice y34.a y34.n y34.c)) .str fun y35 =>
            C.chk [⟨6, 32, y30, .agg, v31⟩, ⟨2, 32, y26, .agg, v27⟩] <|
            C.pur (Instr.build ty_impl_Entry #[(0, (.string y35)), (1, (.string y39))]) .agg fun y40 =>
            C.pur (Instr.build ty_impl_MapNode #[(0, (.agg v27)), (1, (.agg v31)), (2, (.agg y40))]) .agg fun y41 =>
            C.new ty_impl_MapNode (.agg (#[(.int .u8 0), (.int .u8 0), (.int .u8 0), (.int .u8 0), (.int .u8 0), (.int .u8 0), (.int .u8 0), (.int .u8 0), (.int .u8 0), (.int .u8 0), (.int .u8 0), (.int .u8 0), (.int .u8 0), (.int .u8 0), (.int .u8 0), (.int .u8 0), (.int .u8 0), (.int .u8 0), (.int .u8 0), (.int .u8 0), (.int .u8 0), (.int .u8 0), (.int .u8 0), (.int .u8 0), (.int .u8 0), (.int .u8 0), (.int .u8 0), (.int .u8 0), (.int .u8 0), (.int .u8 0), (.int .u8 0), (.int .u8 0), (.int .u8 0), (.int .u8 0), (.int .u8 0), (.int .u8 0), (.int .u8 0), (.int .u8 0), (.int .u8 0), (.int .u8 0), (.int .u8 0), (.int .u8 0), (.int .u8 0), (.int .u8 0), (.int .u8 0), (.int .u8 0), (.int .u8 0), (.int .u8 0), (.int .u8 0), (.int .u8 0), (.int .u8 0), (.int .u8 0), (.int .u8 0), (.int .u8 0), (.int .u8 0), (.int .u8 0), (.int .u8 0), (.int .u8 0), (.int .u8 0), (.int .u8 0), (.int .u8 0), (.int .u8 0), (.int .u8 0), (.int .u8 0), (.string (⟨#[]⟩ : ByteArray)), (.string (⟨#[]⟩ : ByteArray))])) fun b5 =>
            C.chk [⟨6, 32, y30, .agg, v31⟩, ⟨2, 32, y26, .agg, v27⟩] <|
            C.st 66 (Addr.mk b5 0 none) (.agg y41) <|
            jt [(.pointer (some (Addr.mk b5 0 none)))]),
           (C.new ty_impl_MapNode (.agg (#[(.int .u8 0), (.int .u8 0), (.int .u8 0), (.int .u8 0), (.int .u8 0), (.int .u8 0), (.int .u8 0), (.int .u8 0), (.int .u8 0), (.int .u8 0), (.int .u8 0), (.int .u8 0), (.int .u8 0), (.int .u8 0), (.int .u8 0), (.int .u8 0), (.int .u8 0), (.int .u8 0), (.int .u8 0), (.int .u8 0), (.int .u8 0), (.int .u8 0), (.int .u8 0), (.int .u8 0), (.int .u8 0), (.int .u8 0), (.int .u8 0), (.int .u8 0), (.int .u8 0), (.int .u8 0), (.int .u8 0), (.int .u8 0), (.int .u8 0), (.int .u8 0), (.int .u8 0), (.int .u8 0), (.int .u8 0), (.int .u8 0), (.int .u8 0), (.int .u8 0), (.int .u8 0), (.int .u8 0), (.int .u8 0), (.int .u8 0), (.int .u8 0), (.int .u8 0), (.int .u8 0), (.int .u8 0), (.int .u8 0), (.int .u8 0), (.int .u8 0), (.int .u8 0), (.int .u8 0), (.int .u8 0), (.int .u8 0), (.int .u8 0), (.int .u8 0), (.int .u8 0), (.int .u8 0), (.int .u8 0), (.int .u8 0), (.int .u8 0), (.int .u8 0), (.int .u8 0), (.string (⟨#[]⟩ : ByteArray)), (.string (⟨#[]⟩ : ByteArray))])) fun b5 =>
            C.chk [⟨6, 32, y30, .agg, v31⟩, ⟨2, 32, y26, .agg, v27⟩] <|
            C.sem (convert ty_sl_uint8 ty_string (.slice y34.a y34.n y34.c)) .str fun y35 =>
            C.chk [⟨6, 32, y30, .agg, v31⟩, ⟨2, 32, y26, .agg, v27⟩] <|
            C.pur (Instr.build ty_impl_Entry #[(0, (.string y35)), (1, (.string y39))]) .agg fun y40 =>
            C.pur (Instr.build ty_impl_MapNode #[(0, (.agg v27)), (1, (.agg v31)), (2, (.agg y40))]) .agg fun y41 =>
            C.st 66 (Addr.mk b5 0 none) (.agg y41) <|
            jt [(.pointer (some (Addr.mk b5 0 none)))])]),
        (C.new ty_impl_MapNode (.agg (#[(.int .u8 0), (.int .u8 0), (.int .u8 0), (.int .u8 0), (.int .u8 0), (.int .u8 0), (.int .u8 0), (.int .u8 0), (.int .u8 0), (.int .u8 0), (.int .u8 0), (.int .u8 0), (.int .u8 0), (.int .u8 0), (.int .u8 0), (.int .u8 0), (.int .u8 0), (.int .u8 0), (.int .u8 0), (.int .u8 0), (.int .u8 0), (.int .u8 0), (.int .u8 0), (.int .u8 0), (.int .u8 0), (.int .u8 0), (.int .u8 0), (.int .u8 0), (.int .u8 0), (.int .u8 0), (.int .u8 0), (.int .u8 0), (.int .u8 0), (.int .u8 0), (.int .u8 0), (.int .u8 0), (.int .u8 0), (.int .u8 0), (.int .u8 0), (.int .u8 0), (.int .u8 0), (.int .u8 0), (.int .u8 0), (.int .u8 0), (.int .u8 0), (.int .u8 0), (.int .u8 0), (.int .u8 0), (.int .u8 0), (.int .u8 0), (.int .u8 0), (.int .u8 0), (.int .u8 0), (.int .u8 0), (.int .u8 0), (.int .u8 0), (.int .u8 0), (.int .u8 0), (.int .u8 0), (.int .u8 0), (.int .u8 0), (.int .u8 0), (.int .u8 0), (.int .u8 0), (.string (⟨#[]⟩ : ByteArray)), (.string (⟨#[]⟩ : ByteArray))])) fun b5 =>
         C.chk [⟨6, 32, y30, .agg, v31⟩, ⟨2, 32, y26, .agg, v27⟩] <|
         C.all [
           (C.sem (convert ty_sl_uint8 ty_string (.slice y34.a y34.n y34.c)) .str fun y35 =>
            C.chk [⟨6, 32, y30, .agg, v31⟩, ⟨2, 32, y26, .agg, v27⟩] <|
            C.sem (convert ty_sl_uint8 ty_string (.slice y38.a y38.n y38.c)) .str fun y39 =>
            C.chk [⟨6, 32, y30, .agg, v31⟩, ⟨2, 32, y26, .agg, v27⟩] <|
            C.pur (Instr.build ty_impl_Entry #[(0, (.string y35)), (1, (.string y39))]) .agg fun y40 =>
            C.pur (Instr.build ty_impl_MapNode #[(0, (.agg v27)), (1, (.agg v31)), (2, (.agg y40))]) .agg fun y41 =>
            C.st 66 (Addr.mk b5 0 none) (.agg y41) <|
            jt [(.pointer (some (Addr.mk b5 0 none)))]),
           (C.sem (convert ty_sl_uint8 ty_string (.slice y38.a y38.n y38.c)) .str fun y39 =>
            C.chk [⟨6, 32, y30, .agg, v31⟩, ⟨2, 32, y26, .agg, v27⟩] <|
            C.sem (convert ty_sl_uint8 ty_string (.slice y34.a y34.n y34.c)) .str fun y35 =>
            C.chk [⟨6, 32, y30, .agg, v31⟩, ⟨2, 32, y26, .agg, v27⟩] <|
            C.pur (Instr.build ty_impl_Entry #[(0, (.string y35)), (1, (.string y39))]) .agg fun y40 =>
            C.pur (Instr.build ty_impl_MapNode #[(0, (.agg v27)), (1, (.agg v31)), (2, (.agg y40))]) .agg fun y41 =>
            C.st 66 (Addr.mk b5 0 none) (.agg y41) <|
            jt [(.pointer (some (Addr.mk b5 0 none)))])])]
    ) fun jt =>
  cond (decide ((x0.n : Int) < 65)) (
    C.pur (Instr.build ty_impl_MapNode #[]) .agg fun y19 =>
    C.st 66 (Addr.mk b2 0 none) (.agg y19) <|
    C.ld .agg 66 (Addr.mk b2 0 none) fun z3 =>
    C.ret (.tuple #[(.agg z3), (.int .i64 5)])
  ) (
    C.ix x0.a x0.n 1 64 fun p13 =>
    C.ld (.int .u8) 1 p13 fun v14 =>
    cond (decide ((x0.n : Int) < (IntKind.wrap .i64 (65 + (IntKind.wrap .i64 (v14)))))) (
      C.pur (Instr.build ty_impl_MapNode #[]) .agg fun y19 =>
      C.st 66 (Addr.mk b2 0 none) (.agg y19) <|
      C.ld .agg 66 (Addr.mk b2 0 none) fun z7 =>
      C.ret (.tuple #[(.agg z7), (.int .i64 5)])
    ) (
      jt []
    )
  )
theorem impl_ReadMapNode_eq (C : Comb) (x0 : Sl) : fT C Tryz.prog { loop := [], join := [(54, []), (13, [(5, .ptr)])], anyOrder := [4], pure := [] } n_impl_ReadMapNode [(.slice x0.a x0.n x0.c)] = impl_ReadMapNode C x0 := by kernel_rfl
theorem impl_ReadMapNode_calls {R : Value → World → Prop} {w : World} (x0 : Sl) (h : (impl_ReadMapNode (real Tryz.prog R) x0 : World → Prop) w) :
    Calls Tryz.prog n_impl_ReadMapNode [(.slice x0.a x0.n x0.c)].toArray w fun e w' => ∃ v, e = .returned v ∧ R v w' := fT_sound mixed { loop := [], join := [(54, []), (13, [(5, .ptr)])], anyOrder := [4], pure := [] } (by rw [impl_ReadMapNode_eq]; exact h)

/-- impl.EmptyMapKey (96) -/
def impl_EmptyMapKey (C : Comb)  : C.St :=
  C.new ty_impl_Key (.agg (Array.replicate 32 (.int .u8 0))) fun b0 =>
  C.call n_impl_hash [(.int .u8 5), (.slice none 0 0)] [.agg] fun r1 =>
  C.st 32 (Addr.mk b0 0 none) (.agg r1) <|
  C.ld .agg 32 (Addr.mk b0 0 none) fun z3 =>
  C.ret (.agg z3)
theorem impl_EmptyMapKey_eq (C : Comb)  : fT C Tryz.prog { loop := [], join := [], anyOrder := [], pure := [] } n_impl_EmptyMapKey [] = impl_EmptyMapKey C  := by kernel_rfl
theorem impl_EmptyMapKey_calls {R : Value → World → Prop} {w : World}  (h : (impl_EmptyMapKey (real Tryz.prog R)  : World → Prop) w) :
    Calls Tryz.prog n_impl_EmptyMapKey [].toArray w fun e w' => ∃ v, e = .returned v ∧ R v w' := fT_sound mixed { loop := [], join := [], anyOrder := [], pure := [] } (by rw [impl_EmptyMapKey_eq]; exact h)

/-- slices.DeleteFunc[[]impl.Key,impl.Key] (97) -/
def slices_DeleteFunc_sl_impl_Key_impl_Key (C : Comb) (x0 : Sl) (x1 : Value) : C.St :=
  C.call n_slices_IndexFunc_sl_impl_Key_impl_Key [(.slice x0.a x0.n x0.c), x1] [(.int .i64)] fun r10 =>
  cond (r10 == (-1)) (
    C.ret (.slice x0.a x0.n x0.c)
  ) (
    C.loop (TL [(.int .i64), (.int .i64)]) (embL [(.int .i64), (.int .i64)]) [(.int .i64 r10), (.int .i64 (IntKind.wrap .i64 (r10 + 1)))] fun s2 ct2 => C.any fun _ =>
    cond (decide (s2.2 < (x0.n : Int))) (
      C.ix x0.a x0.n 32 s2.2 fun p24 =>
      C.ld .agg 32 p24 fun v25 =>
      C.new ty_impl_Key (.agg (Array.replicate 32 (.int .u8 0))) fun b7 =>
      C.st 32 (Addr.mk b7 0 none) (.agg v25) <|
      C.ld .agg 32 (Addr.mk b7 0 none) fun v27 =>
      C.callV x1 [(.agg v27)] [.bool] fun r28 =>
      cond (!r28) (
        C.ld .agg 32 (Addr.mk b7 0 none) fun v32 =>
        C.ix x0.a x0.n 32 s2.1 fun p33 =>
        C.st 32 p33 (.agg v32) <|
        ct2 [(.int .i64 (IntKind.wrap .i64 (s2.1 + 1))), (.int .i64 (IntKind.wrap .i64 (s2.2 + 1)))]
      ) (
        ct2 [(.int .i64 s2.1), (.int .i64 (IntKind.wrap .i64 (s2.2 + 1)))]
      )
    ) (
      C.sl x0.a x0.n x0.c 32 (some s2.1) none none fun y38 =>
      C.sem (Builtin.clear_ #[ty_sl_impl_Key] ty_x #[(.slice y38.a y38.n y38.c)]) .val fun yq11 =>
      C.sl x0.a x0.n x0.c 32 none (some s2.1) none fun y41 =>
      C.ret (.slice y41.a y41.n y41.c)
    )
  )
theorem slices_DeleteFunc_sl_impl_Key_impl_Key_eq (C : Comb) (x0 : Sl) (x1 : Value) : fT C Tryz.prog { loop := [(5, [(5, (.int .i64)), (6, (.int .i64))])], join := [], anyOrder := [], pure := [] } n_slices_DeleteFunc_sl_impl_Key_impl_Key [(.slice x0.a x0.n x0.c), x1] = slices_DeleteFunc_sl_impl_Key_impl_Key C x0 x1 := by kernel_rfl
theorem slices_DeleteFunc_sl_impl_Key_impl_Key_calls {R : Value → World → Prop} {w : World} (x0 : Sl) (x1 : Value) (h : (slices_DeleteFunc_sl_impl_Key_impl_Key (real Tryz.prog R) x0 x1 : World → Prop) w) :
    Calls Tryz.prog n_slices_DeleteFunc_sl_impl_Key_impl_Key [(.slice x0.a x0.n x0.c), x1].toArray w fun e w' => ∃ v, e = .returned v ∧ R v w' := fT_sound mixed { loop := [(5, [(5, (.int .i64)), (6, (.int .i64))])], join := [], anyOrder := [], pure := [] } (by rw [slices_DeleteFunc_sl_impl_Key_impl_Key_eq]; exact h)

/-- (impl.Blob).links$1 (98) -/
def impl_Blob_links_1 (C : Comb) (x0 : Array Value) (x1 : Addr) : C.St :=
  C.new ty_impl_Key (.agg x0) fun b2 =>
  C.ld .agg 32 (Addr.mk b2 0 none) fun v4 =>
  C.ld .agg 32 x1 fun v5 =>
  C.pur (eqB .eql ty_impl_Key (.tmp 4) (.tmp 5) (.agg v4) (.agg v5)) .bool fun y6 =>
  C.ret (.bool y6)
theorem impl_Blob_links_1_eq (C : Comb) (x0 : Array Value) (x1 : Addr) : fT C Tryz.prog { loop := [], join := [], anyOrder := [], pure := [] } n_impl_Blob_links_1 [(.agg x0), (.pointer (some x1))] = impl_Blob_links_1 C x0 x1 := by kernel_rfl
theorem impl_Blob_links_1_calls {R : Value → World → Prop} {w : World} (x0 : Array Value) (x1 : Addr) (h : (impl_Blob_links_1 (real Tryz.prog R) x0 x1 : World → Prop) w) :
    Calls Tryz.prog n_impl_Blob_links_1 [(.agg x0), (.pointer (some x1))].toArray w fun e w' => ∃ v, e = .returned v ∧ R v w' := fT_sound mixed { loop := [], join := [], anyOrder := [], pure := [] } (by rw [impl_Blob_links_1_eq]; exact h)

/-- slices.ContainsFunc[[][]impl.Key,[]impl.Key] (99) -/
def slices_ContainsFunc_sl_sl_impl_Key_sl_impl_Key (C : Comb) (x0 : Sl) (x1 : Value) : C.St :=
  C.call n_slices_IndexFunc_sl_sl_impl_Key_sl_impl_Key [(.slice x0.a x0.n x0.c), x1] [(.int .i64)] fun r7 =>
  C.ret (.bool (decide (r7 ≥ 0)))
theorem slices_ContainsFunc_sl_sl_impl_Key_sl_impl_Key_eq (C : Comb) (x0 : Sl) (x1 : Value) : fT C Tryz.prog { loop := [], join := [], anyOrder := [], pure := [] } n_slices_ContainsFunc_sl_sl_impl_Key_sl_impl_Key [(.slice x0.a x0.n x0.c), x1] = slices_ContainsFunc_sl_sl_impl_Key_sl_impl_Key C x0 x1 := by kernel_rfl
theorem slices_ContainsFunc_sl_sl_impl_Key_sl_impl_Key_calls {R : Value → World → Prop} {w : World} (x0 : Sl) (x1 : Value) (h : (slices_ContainsFunc_sl_sl_impl_Key_sl_impl_Key (real Tryz.prog R) x0 x1 : World → Prop) w) :
    Calls Tryz.prog n_slices_ContainsFunc_sl_sl_impl_Key_sl_impl_Key [(.slice x0.a x0.n x0.c), x1].toArray w fun e w' => ∃ v, e = .returned v ∧ R v w' := fT_sound mixed { loop := [], join := [], anyOrder := [], pure := [] } (by rw [slices_ContainsFunc_sl_sl_impl_Key_sl_impl_Key_eq]; exact h)

/-- impl.reachCode$1 (100) -/
def impl_reachCode_1 (C : Comb) (x0 : Sl) : C.St :=
  C.ret (.bool (decide ((x0.n : Int) > 256)))
theorem impl_reachCode_1_eq (C : Comb) (x0 : Sl) : fT C Tryz.prog { loop := [], join := [], anyOrder := [], pure := [] } n_impl_reachCode_1 [(.slice x0.a x0.n x0.c)] = impl_reachCode_1 C x0 := by kernel_rfl
theorem impl_reachCode_1_calls {R : Value → World → Prop} {w : World} (x0 : Sl) (h : (impl_reachCode_1 (real Tryz.prog R) x0 : World → Prop) w) :
    Calls Tryz.prog n_impl_reachCode_1 [(.slice x0.a x0.n x0.c)].toArray w fun e w' => ∃ v, e = .returned v ∧ R v w' := fT_sound mixed { loop := [], join := [], anyOrder := [], pure := [] } (by rw [impl_reachCode_1_eq]; exact h)

/-- impl.sorted (101) -/
def impl_sorted (C : Comb) (x0 : Sl) : C.St :=
  C.call n_slices_Clone_sl_impl_Key_impl_Key [(.slice x0.a x0.n x0.c)] [.slice] fun r5 =>
  C.call n_slices_SortFunc_sl_impl_Key_impl_Key [(.slice r5.a r5.n r5.c), (.func (.func n_impl_compareKeys) #[] #[])] [] fun r7 =>
  C.call n_slices_Compact_sl_impl_Key_impl_Key [(.slice r5.a r5.n r5.c)] [.slice] fun r9 =>
  C.ret (.slice r9.a r9.n r9.c)
theorem impl_sorted_eq (C : Comb) (x0 : Sl) : fT C Tryz.prog { loop := [], join := [], anyOrder := [], pure := [] } n_impl_sorted [(.slice x0.a x0.n x0.c)] = impl_sorted C x0 := by kernel_rfl
theorem impl_sorted_calls {R : Value → World → Prop} {w : World} (x0 : Sl) (h : (impl_sorted (real Tryz.prog R) x0 : World → Prop) w) :
    Calls Tryz.prog n_impl_sorted [(.slice x0.a x0.n x0.c)].toArray w fun e w' => ∃ v, e = .returned v ∧ R v w' := fT_sound mixed { loop := [], join := [], anyOrder := [], pure := [] } (by rw [impl_sorted_eq]; exact h)

/-- (*impl.shop).reach (102) -/
def ptr_impl_shop_reach (C : Comb) (x0 : Addr) (x1 : Sl) : C.St :=
  C.sem (Instr.buildSlice ty_sl_impl_Key 0 #[]) .slice fun y15 =>
  C.sem (Instr.makeMap ty_map_impl_Key_bool none) .val fun y16 =>
  C.new ty_sl_impl_Key (.slice none 0 0) fun b5 =>
  C.new ty_map_impl_Key_bool (.map none) fun b6 =>
  C.st 1 (Addr.mk b5 0 none) (.slice y15.a y15.n y15.c) <|
  C.st 1 (Addr.mk b6 0 none) y16 <|
  C.loop (TL [(.int .i64)]) (embL [(.int .i64)]) [(.int .i64 0)] fun s5 ct5 => C.any fun _ =>
  cond (decide (s5 < (x1.n : Int))) (
    C.ix x1.a x1.n 32 s5 fun p22 =>
    C.ld .agg 32 p22 fun v23 =>
    C.new ty_impl_Key (.agg (Array.replicate 32 (.int .u8 0))) fun b9 =>
    C.st 32 (Addr.mk b9 0 none) (.agg v23) <|
    C.ld .agg 32 (Addr.mk b9 0 none) fun v25 =>
    C.callV (.func (.func n_ptr_impl_shop_reach_1) #[] #[(.pointer (some (Addr.mk b6 0 none))), (.pointer (some (Addr.mk b5 0 none)))]) [(.agg v25)] [] fun r26 =>
    ct5 [(.int .i64 (IntKind.wrap .i64 (s5 + 1)))]
  ) (
    C.loop (TL [(.int .i64)]) (embL [(.int .i64)]) [(.int .i64 0)] fun s11 ct11 => C.any fun _ =>
    C.ld .slice 1 (Addr.mk b5 0 none) fun v29 =>
    cond (decide (s11 < (v29.n : Int))) (
      C.ld .slice 1 (Addr.mk b5 0 none) fun v36 =>
      C.ix v36.a v36.n 32 s11 fun p38 =>
      C.ld .agg 32 p38 fun v39 =>
      C.call n_ptr_impl_shop_get [(.pointer (some x0)), (.agg v39)] [.agg, .bool] fun r40 =>
      C.new ty_impl_Blob (.agg (#[(.int .u8 0), (.slice none 0 0)])) fun b11 =>
      C.st 2 (Addr.mk b11 0 none) (.agg r40.1) <|
      cond r40.2 (
        C.ld .agg 2 (Addr.mk b11 0 none) fun v44 =>
        C.call n_impl_Blob_links [(.agg v44)] [.slice] fun r45 =>
        C.loop (TL [(.int .i64)]) (embL [(.int .i64)]) [(.int .i64 0)] fun s20 ct20 => C.any fun _ =>
        cond (decide (s20 < (r45.n : Int))) (
          C.ix r45.a r45.n 32 s20 fun p49 =>
          C.ld .agg 32 p49 fun v50 =>
          C.new ty_impl_Key (.agg (Array.replicate 32 (.int .u8 0))) fun b14 =>
          C.st 32 (Addr.mk b14 0 none) (.agg v50) <|
          C.ld .agg 32 (Addr.mk b14 0 none) fun v52 =>
          C.callV (.func (.func n_ptr_impl_shop_reach_1) #[] #[(.pointer (some (Addr.mk b6 0 none))), (.pointer (some (Addr.mk b5 0 none)))]) [(.agg v52)] [] fun r53 =>
          ct20 [(.int .i64 (IntKind.wrap .i64 (s20 + 1)))]
        ) (
          ct11 [(.int .i64 (IntKind.wrap .i64 (s11 + 1)))]
        )
      ) (
        ct11 [(.int .i64 (IntKind.wrap .i64 (s11 + 1)))]
      )
    ) (
      C.ld .slice 1 (Addr.mk b5 0 none) fun v55 =>
      C.ret (.slice v55.a v55.n v55.c)
    )
  )
theorem ptr_impl_shop_reach_eq (C : Comb) (x0 : Addr) (x1 : Sl) : fT C Tryz.prog { loop := [(4, [(20, (.int .i64))]), (9, [(10, (.int .i64))]), (14, [(47, (.int .i64))])], join := [], anyOrder := [], pure := [] } n_ptr_impl_shop_reach [(.pointer (some x0)), (.slice x1.a x1.n x1.c)] = ptr_impl_shop_reach C x0 x1 := by kernel_rfl
theorem ptr_impl_shop_reach_calls {R : Value → World → Prop} {w : World} (x0 : Addr) (x1 : Sl) (h : (ptr_impl_shop_reach (real Tryz.prog R) x0 x1 : World → Prop) w) :
    Calls Tryz.prog n_ptr_impl_shop_reach [(.pointer (some x0)), (.slice x1.a x1.n x1.c)].toArray w fun e w' => ∃ v, e = .returned v ∧ R v w' := fT_sound mixed { loop := [(4, [(20, (.int .i64))]), (9, [(10, (.int .i64))]), (14, [(47, (.int .i64))])], join := [], anyOrder := [], pure := [] } (by rw [ptr_impl_shop_reach_eq]; exact h)

/-- (*impl.shop).reached$1 (103) -/
def ptr_impl_shop_reached_1 (C : Comb) (x0 : Array Value) (x1 : Addr) (x2 : Addr) : C.St :=
  C.new ty_impl_Key (.agg x0) fun b3 =>
  C.draw <|
  C.ld .ptr 1 x1 fun v5 =>
  C.ld .agg 32 (Addr.mk b3 0 none) fun v6 =>
  C.ld .bool 1 x2 fun v8 =>
  C.call n_ptr_impl_shop_has [(.pointer (some v5)), (.agg v6)] [.bool] fun r7 =>
  C.chk [⟨3, 1, x2, .bool, v8⟩] <|
  C.pur (eqB .neq ty_bool (.tmp 7) (.tmp 8) (.bool r7) (.bool v8)) .bool fun y9 =>
  C.ret (.bool y9)
theorem ptr_impl_shop_reached_1_eq (C : Comb) (x0 : Array Value) (x1 : Addr) (x2 : Addr) : fT C Tryz.prog { loop := [], join := [], anyOrder := [1], pure := [] } n_ptr_impl_shop_reached_1 [(.agg x0), (.pointer (some x1)), (.pointer (some x2))] = ptr_impl_shop_reached_1 C x0 x1 x2 := by kernel_rfl
theorem ptr_impl_shop_reached_1_calls {R : Value → World → Prop} {w : World} (x0 : Array Value) (x1 : Addr) (x2 : Addr) (h : (ptr_impl_shop_reached_1 (real Tryz.prog R) x0 x1 x2 : World → Prop) w) :
    Calls Tryz.prog n_ptr_impl_shop_reached_1 [(.agg x0), (.pointer (some x1)), (.pointer (some x2))].toArray w fun e w' => ∃ v, e = .returned v ∧ R v w' := fT_sound mixed { loop := [], join := [], anyOrder := [1], pure := [] } (by rw [ptr_impl_shop_reached_1_eq]; exact h)

/-- spec.l01Sort (104) -/
def spec_l01Sort (C : Comb) (x0 : Sl) (x1 : Array Value) : C.St :=
  C.new ty_impl_Key (.agg x1) fun b3 =>
  C.sem (Instr.buildSlice ty_sl_impl_Key 0 #[]) .slice fun y9 =>
  C.loop (TL [.slice, (.int .i64)]) (embL [.slice, (.int .i64)]) [(.slice y9.a y9.n y9.c), (.int .i64 0)] fun s3 ct3 => C.any fun _ =>
  cond (decide (s3.2 < (x0.n : Int))) (
    C.ix x0.a x0.n 32 s3.2 fun p19 =>
    C.ld .agg 32 p19 fun v20 =>
    C.call n_spec_l01Has [(.slice s3.1.a s3.1.n s3.1.c), (.agg v20)] [.bool] fun r21 =>
    cond r21 (
      ct3 [(.slice s3.1.a s3.1.n s3.1.c), (.int .i64 (IntKind.wrap .i64 (s3.2 + 1)))]
    ) (
      C.ix x0.a x0.n 32 s3.2 fun p25 =>
      C.ld .agg 32 p25 fun v26 =>
      C.sem (Instr.buildSlice ty_sl_impl_Key 1 #[(0, (.agg v26))]) .slice fun y27 =>
      C.sem (Builtin.append_ #[ty_sl_impl_Key, ty_sl_impl_Key] ty_sl_impl_Key #[(.slice s3.1.a s3.1.n s3.1.c), (.slice y27.a y27.n y27.c)]) .slice fun y28 =>
      C.loop (TL [(.int .i64)]) (embL [(.int .i64)]) [(.int .i64 (IntKind.wrap .i64 ((y28.n : Int) - 1)))] fun s11 ct11 => C.any fun _ =>
      C.join (TL []) (embL []) (fun s216 => C.any fun _ =>
          C.ix y28.a y28.n 32 s11 fun p55 =>
          C.ld .agg 32 p55 fun v56 =>
          C.new ty_impl_Key (.agg (Array.replicate 32 (.int .u8 0))) fun b8 =>
          C.st 32 (Addr.mk b8 0 none) (.agg v56) <|
          C.ix y28.a y28.n 32 (IntKind.wrap .i64 (s11 - 1)) fun p62 =>
          C.ld .agg 32 p62 fun v63 =>
          C.ix y28.a y28.n 32 s11 fun p64 =>
          C.st 32 p64 (.agg v63) <|
          C.ld .agg 32 (Addr.mk b8 0 none) fun v68 =>
          C.ix y28.a y28.n 32 (IntKind.wrap .i64 (s11 - 1)) fun p69 =>
          C.st 32 p69 (.agg v68) <|
          ct11 [(.int .i64 (IntKind.wrap .i64 (s11 - 1)))]
        ) fun jt =>
      C.draw <|
      cond (decide (s11 > 0)) (
        C.ix y28.a y28.n 32 s11 fun p37 =>
        C.ix y28.a y28.n 32 (IntKind.wrap .i64 (s11 - 1)) fun p44 =>
        C.all [
          (C.ld .agg 32 p37 fun v38 =>
           C.all [
             (C.ld .agg 32 (Addr.mk b3 0 none) fun v39 =>
              C.all [
                (C.call n_spec_l01Xor [(.agg v38), (.agg v39)] [.agg] fun r40 =>
                 C.all [
                   (C.ld .agg 32 p44 fun v45 =>
                    C.ld .agg 32 (Addr.mk b3 0 none) fun v46 =>
                    C.call n_spec_l01Xor [(.agg v45), (.agg v46)] [.agg] fun r47 =>
                    C.call n_spec_l01Compare [(.agg r40), (.agg r47)] [(.int .i64)] fun r48 =>
                    cond (decide (r48 < 0)) (
                      jt []
                    ) (
                      ct3 [(.slice y28.a y28.n y28.c), (.int .i64 (IntKind.wrap .i64 (s3.2 + 1)))]
                    )),
                   (C.ld .agg 32 (Addr.mk b3 0 none) fun v46 =>
                    C.ld .agg 32 p44 fun v45 =>
                    C.call n_spec_l01Xor [(.agg v45), (.agg v46)] [.agg] fun r47 =>
                    C.call n_spec_l01Compare [(.agg r40), (.agg r47)] [(.int .i64)] fun r48 =>
                    cond (decide (r48 < 0)) (
                      jt []
                    ) (
                      ct3 [(.slice y28.a y28.n y28.c), (.int .i64 (IntKind.wrap .i64 (s3.2 + 1)))]
                    ))]),
                (C.ld .agg 32 p44 fun v45 =>
                 C.all [
                   (C.call n_spec_l01Xor [(.agg v38), (.agg v39)] [.agg] fun r40 =>
                    C.ld .agg 32 (Addr.mk b3 0 none) fun v46 =>
                    C.call n_spec_l01Xor [(.agg v45), (.agg v46)] [.agg] fun r47 =>
                    C.call n_spec_l01Compare [(.agg r40), (.agg r47)] [(.int .i64)] fun r48 =>
                    cond (decide (r48 < 0)) (
                      jt []
                    ) (
                      ct3 [(.slice y28.a y28.n y28.c), (.int .i64 (IntKind.wrap .i64 (s3.2 + 1)))]
                    )),
                   (C.ld .agg 32 (Addr.mk b3 0 none) fun v46 =>
                    C.call n_spec_l01Xor [(.agg v38), (.agg v39)] [.agg] fun r40 =>
                    C.call n_spec_l01Xor [(.agg v45), (.agg v46)] [.agg] fun r47 =>
                    C.call n_spec_l01Compare [(.agg r40), (.agg r47)] [(.int .i64)] fun r48 =>
                    cond (decide (r48 < 0)) (
                      jt []
                    ) (
                      ct3 [(.slice y28.a y28.n y28.c), (.int .i64 (IntKind.wrap .i64 (s3.2 + 1)))]
                    ))]),
                (C.ld .agg 32 (Addr.mk b3 0 none) fun v46 =>
                 C.all [
                   (C.call n_spec_l01Xor [(.agg v38), (.agg v39)] [.agg] fun r40 =>
                    C.ld .agg 32 p44 fun v45 =>
                    C.call n_spec_l01Xor [(.agg v45), (.agg v46)] [.agg] fun r47 =>
                    C.call n_spec_l01Compare [(.agg r40), (.agg r47)] [(.int .i64)] fun r48 =>
                    cond (decide (r48 < 0)) (
                      jt []
                    ) (
                      ct3 [(.slice y28.a y28.n y28.c), (.int .i64 (IntKind.wrap .i64 (s3.2 + 1)))]
                    )),
                   (C.ld .agg 32 p44 fun v45 =>
                    C.call n_spec_l01Xor [(.agg v38), (.agg v39)] [.agg] fun r40 =>
                    C.call n_spec_l01Xor [(.agg v45), (.agg v46)] [.agg] fun r47 =>
                    C.call n_spec_l01Compare [(.agg r40), (.agg r47)] [(.int .i64)] fun r48 =>
                    cond (decide (r48 < 0)) (
                      jt []
                    ) (
                      ct3 [(.slice y28.a y28.n y28.c), (.int .i64 (IntKind.wrap .i64 (s3.2 + 1)))]
                    ))])]),
             (C.ld .agg 32 p44 fun v45 =>
              C.all [
                (C.ld .agg 32 (Addr.mk b3 0 none) fun v39 =>
                 C.all [
                   (C.call n_spec_l01Xor [(.agg v38), (.agg v39)] [.agg] fun r40 =>
                    C.ld .agg 32 (Addr.mk b3 0 none) fun v46 =>
                    C.call n_spec_l01Xor [(.agg v45), (.agg v46)] [.agg] fun r47 =>
                    C.call n_spec_l01Compare [(.agg r40), (.agg r47)] [(.int .i64)] fun r48 =>
                    cond (decide (r48 < 0)) (
                      jt []
                    ) (
                      ct3 [(.slice y28.a y28.n y28.c), (.int .i64 (IntKind.wrap .i64 (s3.2 + 1)))]
                    )),
                   (C.ld .agg 32 (Addr.mk b3 0 none) fun v46 =>
                    C.call n_spec_l01Xor [(.agg v38), (.agg v39)] [.agg] fun r40 =>
                    C.call n_spec_l01Xor [(.agg v45), (.agg v46)] [.agg] fun r47 =>
                    C.call n_spec_l01Compare [(.agg r40), (.agg r47)] [(.int .i64)] fun r48 =>
                    cond (decide (r48 < 0)) (
                      jt []
                    ) (
                      ct3 [(.slice y28.a y28.n y28.c), (.int .i64 (IntKind.wrap .i64 (s3.2 + 1)))]
                    ))]),
                (C.ld .agg 32 (Addr.mk b3 0 none) fun v46 =>
                 C.ld .agg 32 (Addr.mk b3 0 none) fun v39 =>
                 C.call n_spec_l01Xor [(.agg v38), (.agg v39)] [.agg] fun r40 =>
                 C.call n_spec_l01Xor [(.agg v45), (.agg v46)] [.agg] fun r47 =>
                 C.call n_spec_l01Compare [(.agg r40), (.agg r47)] [(.int .i64)] fun r48 =>
                 cond (decide (r48 < 0)) (
                   jt []
                 ) (
                   ct3 [(.slice y28.a y28.n y28.c), (.int .i64 (IntKind.wrap .i64 (s3.2 + 1)))]
                 ))]),
             (C.ld .agg 32 (Addr.mk b3 0 none) fun v46 =>
              C.all [
                (C.ld .agg 32 (Addr.mk b3 0 none) fun v39 =>
                 C.all [
                   (C.call n_spec_l01Xor [(.agg v38), (.agg v39)] [.agg] fun r40 =>
                    C.ld .agg 32 p44 fun v45 =>
                    C.call n_spec_l01Xor [(.agg v45), (.agg v46)] [.agg] fun r47 =>
                    C.call n_spec_l01Compare [(.agg r40), (.agg r47)] [(.int .i64)] fun r48 =>
                    cond (decide (r48 < 0)) (
                      jt []
                    ) (
                      ct3 [(.slice y28.a y28.n y28.c), (.int .i64 (IntKind.wrap .i64 (s3.2 + 1)))]
                    )),
                   (C.ld .agg 32 p44 fun v45 =>
                    C.call n_spec_l01Xor [(.agg v38), (.agg v39)] [.agg] fun r40 =>
                    C.call n_spec_l01Xor [(.agg v45), (.agg v46)] [.agg] fun r47 =>
                    C.call n_spec_l01Compare [(.agg r40), (.agg r47)] [(.int .i64)] fun r48 =>
                    cond (decide (r48 < 0)) (
                      jt []
                    ) (
                      ct3 [(.slice y28.a y28.n y28.c), (.int .i64 (IntKind.wrap .i64 (s3.2 + 1)))]
                    ))]),
                (C.ld .agg 32 p44 fun v45 =>
                 C.ld .agg 32 (Addr.mk b3 0 none) fun v39 =>
                 C.call n_spec_l01Xor [(.agg v38), (.agg v39)] [.agg] fun r40 =>
                 C.call n_spec_l01Xor [(.agg v45), (.agg v46)] [.agg] fun r47 =>
                 C.call n_spec_l01Compare [(.agg r40), (.agg r47)] [(.int .i64)] fun r48 =>
                 cond (decide (r48 < 0)) (
                   jt []
                 ) (
                   ct3 [(.slice y28.a y28.n y28.c), (.int .i64 (IntKind.wrap .i64 (s3.2 + 1)))]
                 ))])]),
          (C.ld .agg 32 (Addr.mk b3 0 none) fun v39 =>
           C.all [
             (C.ld .agg 32 p37 fun v38 =>
              C.all [
                (C.call n_spec_l01Xor [(.agg v38), (.agg v39)] [.agg] fun r40 =>
                 C.all [
                   (C.ld .agg 32 p44 fun v45 =>
                    C.ld .agg 32 (Addr.mk b3 0 none) fun v46 =>
                    C.call n_spec_l01Xor [(.agg v45), (.agg v46)] [.agg] fun r47 =>
                    C.call n_spec_l01Compare [(.agg r40), (.agg r47)] [(.int .i64)] fun r48 =>
                    cond (decide (r48 < 0)) (
                      jt []
                    ) (
                      ct3 [(.slice y28.a y28.n y28.c), (.int .i64 (IntKind.wrap .i64 (s3.2 + 1)))]
                    )),
                   (C.ld .agg 32 (Addr.mk b3 0 none) fun v46 =>
                    C.ld .agg 32 p44 fun v45 =>
                    C.call n_spec_l01Xor [(.agg v45), (.agg v46)] [.agg] fun r47 =>
                    C.call n_spec_l01Compare [(.agg r40), (.agg r47)] [(.int .i64)] fun r48 =>
                    cond (decide (r48 < 0)) (
                      jt []
                    ) (
                      ct3 [(.slice y28.a y28.n y28.c), (.int .i64 (IntKind.wrap .i64 (s3.2 + 1)))]
                    ))]),
                (C.ld .agg 32 p44 fun v45 =>
                 C.all [
                   (C.call n_spec_l01Xor [(.agg v38), (.agg v39)] [.agg] fun r40 =>
                    C.ld .agg 32 (Addr.mk b3 0 none) fun v46 =>
                    C.call n_spec_l01Xor [(.agg v45), (.agg v46)] [.agg] fun r47 =>
                    C.call n_spec_l01Compare [(.agg r40), (.agg r47)] [(.int .i64)] fun r48 =>
                    cond (decide (r48 < 0)) (
                      jt []
                    ) (
                      ct3 [(.slice y28.a y28.n y28.c), (.int .i64 (IntKind.wrap .i64 (s3.2 + 1)))]
                    )),
                   (C.ld .agg 32 (Addr.mk b3 0 none) fun v46 =>
                    C.call n_spec_l01Xor [(.agg v38), (.agg v39)] [.agg] fun r40 =>
                    C.call n_spec_l01Xor [(.agg v45), (.agg v46)] [.agg] fun r47 =>
                    C.call n_spec_l01Compare [(.agg r40), (.agg r47)] [(.int .i64)] fun r48 =>
                    cond (decide (r48 < 0)) (
                      jt []
                    ) (
                      ct3 [(.slice y28.a y28.n y28.c), (.int .i64 (IntKind.wrap .i64 (s3.2 + 1)))]
                    ))]),
                (C.ld .agg 32 (Addr.mk b3 0 none) fun v46 =>
                 C.all [
                   (C.call n_spec_l01Xor [(.agg v38), (.agg v39)] [.agg] fun r40 =>
                    C.ld .agg 32 p44 fun v45 =>
                    C.call n_spec_l01Xor [(.agg v45), (.agg v46)] [.agg] fun r47 =>
                    C.call n_spec_l01Compare [(.agg r40), (.agg r47)] [(.int .i64)] fun r48 =>
                    cond (decide (r48 < 0)) (
                      jt []
                    ) (
                      ct3 [(.slice y28.a y28.n y28.c), (.int .i64 (IntKind.wrap .i64 (s3.2 + 1)))]
                    )),
                   (C.ld .agg 32 p44 fun v45 =>
                    C.call n_spec_l01Xor [(.agg v38), (.agg v39)] [.agg] fun r40 =>
                    C.call n_spec_l01Xor [(.agg v45), (.agg v46)] [.agg] fun r47 =>
                    C.call n_spec_l01Compare [(.agg r40), (.agg r47)] [(.int .i64)] fun r48 =>
                    cond (decide (r48 < 0)) (
                      jt []
                    ) (
                      ct3 [(.slice y28.a y28.n y28.c), (.int .i64 (IntKind.wrap .i64 (s3.2 + 1)))]
                    ))])]),
             (C.ld .agg 32 p44 fun v45 =>
              C.all [
                (C.ld .agg 32 p37 fun v38 =>
                 C.all [
                   (C.call n_spec_l01Xor [(.agg v38), (.agg v39)] [.agg] fun r40 =>
                    C.ld .agg 32 (Addr.mk b3 0 none) fun v46 =>
                    C.call n_spec_l01Xor [(.agg v45), (.agg v46)] [.agg] fun r47 =>
                    C.call n_spec_l01Compare [(.agg r40), (.agg r47)] [(.int .i64)] fun r48 =>
                    cond (decide (r48 < 0)) (
                      jt []
                    ) (
                      ct3 [(.slice y28.a y28.n y28.c), (.int .i64 (IntKind.wrap .i64 (s3.2 + 1)))]
                    )),
                   (C.ld .agg 32 (Addr.mk b3 0 none) fun v46 =>
                    C.call n_spec_l01Xor [(.agg v38), (.agg v39)] [.agg] fun r40 =>
                    C.call n_spec_l01Xor [(.agg v45), (.agg v46)] [.agg] fun r47 =>
                    C.call n_spec_l01Compare [(.agg r40), (.agg r47)] [(.int .i64)] fun r48 =>
                    cond (decide (r48 < 0)) (
                      jt []
                    ) (
                      ct3 [(.slice y28.a y28.n y28.c), (.int .i64 (IntKind.wrap .i64 (s3.2 + 1)))]
                    ))]),
                (C.ld .agg 32 (Addr.mk b3 0 none) fun v46 =>
                 C.ld .agg 32 p37 fun v38 =>
                 C.call n_spec_l01Xor [(.agg v38), (.agg v39)] [.agg] fun r40 =>
                 C.call n_spec_l01Xor [(.agg v45), (.agg v46)] [.agg] fun r47 =>
                 C.call n_spec_l01Compare [(.agg r40), (.agg r47)] [(.int .i64)] fun r48 =>
                 cond (decide (r48 < 0)) (
                   jt []
                 ) (
                   ct3 [(.slice y28.a y28.n y28.c), (.int .i64 (IntKind.wrap .i64 (s3.2 + 1)))]
                 ))]),
             (C.ld .agg 32 (Addr.mk b3 0 none) fun v46 =>
              C.all [
                (C.ld .agg 32 p37 fun v38 =>
                 C.all [
                   (C.call n_spec_l01Xor [(.agg v38), (.agg v39)] [.agg] fun r40 =>
                    C.ld .agg 32 p44 fun v45 =>
                    C.call n_spec_l01Xor [(.agg v45), (.agg v46)] [.agg] fun r47 =>
                    C.call n_spec_l01Compare [(.agg r40), (.agg r47)] [(.int .i64)] fun r48 =>
                    cond (decide (r48 < 0)) (
                      jt []
                    ) (
                      ct3 [(.slice y28.a y28.n y28.c), (.int .i64 (IntKind.wrap .i64 (s3.2 + 1)))]
                    )),
                   (C.ld .agg 32 p44 fun v45 =>
                    C.call n_spec_l01Xor [(.agg v38), (.agg v39)] [.agg] fun r40 =>
                    C.call n_spec_l01Xor [(.agg v45), (.agg v46)] [.agg] fun r47 =>
                    C.call n_spec_l01Compare [(.agg r40), (.agg r47)] [(.int .i64)] fun r48 =>
                    cond (decide (r48 < 0)) (
                      jt []
                    ) (
                      ct3 [(.slice y28.a y28.n y28.c), (.int .i64 (IntKind.wrap .i64 (s3.2 + 1)))]
                    ))]),
                (C.ld .agg 32 p44 fun v45 =>
                 C.ld .agg 32 p37 fun v38 =>
                 C.call n_spec_l01Xor [(.agg v38), (.agg v39)] [.agg] fun r40 =>
                 C.call n_spec_l01Xor [(.agg v45), (.agg v46)] [.agg] fun r47 =>
                 C.call n_spec_l01Compare [(.agg r40), (.agg r47)] [(.int .i64)] fun r48 =>
                 cond (decide (r48 < 0)) (
                   jt []
                 ) (
                   ct3 [(.slice y28.a y28.n y28.c), (.int .i64 (IntKind.wrap .i64 (s3.2 + 1)))]
                 ))])]),
          (C.ld .agg 32 p44 fun v45 =>
           C.all [
             (C.ld .agg 32 p37 fun v38 =>
              C.all [
                (C.ld .agg 32 (Addr.mk b3 0 none) fun v39 =>
                 C.all [
                   (C.call n_spec_l01Xor [(.agg v38), (.agg v39)] [.agg] fun r40 =>
                    C.ld .agg 32 (Addr.mk b3 0 none) fun v46 =>
                    C.call n_spec_l01Xor [(.agg v45), (.agg v46)] [.agg] fun r47 =>
                    C.call n_spec_l01Compare [(.agg r40), (.agg r47)] [(.int .i64)] fun r48 =>
                    cond (decide (r48 < 0)) (
                      jt []
                    ) (
                      ct3 [(.slice y28.a y28.n y28.c), (.int .i64 (IntKind.wrap .i64 (s3.2 + 1)))]
                    )),
                   (C.ld .agg 32 (Addr.mk b3 0 none) fun v46 =>
                    C.call n_spec_l01Xor [(.agg v38), (.agg v39)] [.agg] fun r40 =>
                    C.call n_spec_l01Xor [(.agg v45), (.agg v46)] [.agg] fun r47 =>
                    C.call n_spec_l01Compare [(.agg r40), (.agg r47)] [(.int .i64)] fun r48 =>
                    cond (decide (r48 < 0)) (
                      jt []
                    ) (
                      ct3 [(.slice y28.a y28.n y28.c), (.int .i64 (IntKind.wrap .i64 (s3.2 + 1)))]
                    ))]),
                (C.ld .agg 32 (Addr.mk b3 0 none) fun v46 =>
                 C.ld .agg 32 (Addr.mk b3 0 none) fun v39 =>
                 C.call n_spec_l01Xor [(.agg v38), (.agg v39)] [.agg] fun r40 =>
                 C.call n_spec_l01Xor [(.agg v45), (.agg v46)] [.agg] fun r47 =>
                 C.call n_spec_l01Compare [(.agg r40), (.agg r47)] [(.int .i64)] fun r48 =>
                 cond (decide (r48 < 0)) (
                   jt []
                 ) (
                   ct3 [(.slice y28.a y28.n y28.c), (.int .i64 (IntKind.wrap .i64 (s3.2 + 1)))]
                 ))]),
             (C.ld .agg 32 (Addr.mk b3 0 none) fun v39 =>
              C.all [
                (C.ld .agg 32 p37 fun v38 =>
                 C.all [
                   (C.call n_spec_l01Xor [(.agg v38), (.agg v39)] [.agg] fun r40 =>
                    C.ld .agg 32 (Addr.mk b3 0 none) fun v46 =>
                    C.call n_spec_l01Xor [(.agg v45), (.agg v46)] [.agg] fun r47 =>
                    C.call n_spec_l01Compare [(.agg r40), (.agg r47)] [(.int .i64)] fun r48 =>
                    cond (decide (r48 < 0)) (
                      jt []
                    ) (
                      ct3 [(.slice y28.a y28.n y28.c), (.int .i64 (IntKind.wrap .i64 (s3.2 + 1)))]
                    )),
                   (C.ld .agg 32 (Addr.mk b3 0 none) fun v46 =>
                    C.call n_spec_l01Xor [(.agg v38), (.agg v39)] [.agg] fun r40 =>
                    C.call n_spec_l01Xor [(.agg v45), (.agg v46)] [.agg] fun r47 =>
                    C.call n_spec_l01Compare [(.agg r40), (.agg r47)] [(.int .i64)] fun r48 =>
                    cond (decide (r48 < 0)) (
                      jt []
                    ) (
                      ct3 [(.slice y28.a y28.n y28.c), (.int .i64 (IntKind.wrap .i64 (s3.2 + 1)))]
                    ))]),
                (C.ld .agg 32 (Addr.mk b3 0 none) fun v46 =>
                 C.ld .agg 32 p37 fun v38 =>
                 C.call n_spec_l01Xor [(.agg v38), (.agg v39)] [.agg] fun r40 =>
                 C.call n_spec_l01Xor [(.agg v45), (.agg v46)] [.agg] fun r47 =>
                 C.call n_spec_l01Compare [(.agg r40), (.agg r47)] [(.int .i64)] fun r48 =>
                 cond (decide (r48 < 0)) (
                   jt []
                 ) (
                   ct3 [(.slice y28.a y28.n y28.c), (.int .i64 (IntKind.wrap .i64 (s3.2 + 1)))]
                 ))]),
             (C.ld .agg 32 (Addr.mk b3 0 none) fun v46 =>
              C.all [
                (C.ld .agg 32 p37 fun v38 =>
                 C.ld .agg 32 (Addr.mk b3 0 none) fun v39 =>
                 C.call n_spec_l01Xor [(.agg v38), (.agg v39)] [.agg] fun r40 =>
                 C.call n_spec_l01Xor [(.agg v45), (.agg v46)] [.agg] fun r47 =>
                 C.call n_spec_l01Compare [(.agg r40), (.agg r47)] [(.int .i64)] fun r48 =>
                 cond (decide (r48 < 0)) (
                   jt []
                 ) (
                   ct3 [(.slice y28.a y28.n y28.c), (.int .i64 (IntKind.wrap .i64 (s3.2 + 1)))]
                 )),
                (C.ld .agg 32 (Addr.mk b3 0 none) fun v39 =>
                 C.ld .agg 32 p37 fun v38 =>
                 C.call n_spec_l01Xor [(.agg v38), (.agg v39)] [.agg] fun r40 =>
                 C.call n_spec_l01Xor [(.agg v45), (.agg v46)] [.agg] fun r47 =>
                 C.call n_spec_l01Compare [(.agg r40), (.agg r47)] [(.int .i64)] fun r48 =>
                 cond (decide (r48 < 0)) (
                   jt []
                 ) (
                   ct3 [(.slice y28.a y28.n y28.c), (.int .i64 (IntKind.wrap .i64 (s3.2 + 1)))]
                 ))])]),
          (C.ld .agg 32 (Addr.mk b3 0 none) fun v46 =>
           C.all [
             (C.ld .agg 32 p37 fun v38 =>
              C.all [
                (C.ld .agg 32 (Addr.mk b3 0 none) fun v39 =>
                 C.all [
                   (C.call n_spec_l01Xor [(.agg v38), (.agg v39)] [.agg] fun r40 =>
                    C.ld .agg 32 p44 fun v45 =>
                    C.call n_spec_l01Xor [(.agg v45), (.agg v46)] [.agg] fun r47 =>
                    C.call n_spec_l01Compare [(.agg r40), (.agg r47)] [(.int .i64)] fun r48 =>
                    cond (decide (r48 < 0)) (
                      jt []
                    ) (
                      ct3 [(.slice y28.a y28.n y28.c), (.int .i64 (IntKind.wrap .i64 (s3.2 + 1)))]
                    )),
                   (C.ld .agg 32 p44 fun v45 =>
                    C.call n_spec_l01Xor [(.agg v38), (.agg v39)] [.agg] fun r40 =>
                    C.call n_spec_l01Xor [(.agg v45), (.agg v46)] [.agg] fun r47 =>
                    C.call n_spec_l01Compare [(.agg r40), (.agg r47)] [(.int .i64)] fun r48 =>
                    cond (decide (r48 < 0)) (
                      jt []
                    ) (
                      ct3 [(.slice y28.a y28.n y28.c), (.int .i64 (IntKind.wrap .i64 (s3.2 + 1)))]
                    ))]),
                (C.ld .agg 32 p44 fun v45 =>
                 C.ld .agg 32 (Addr.mk b3 0 none) fun v39 =>
                 C.call n_spec_l01Xor [(.agg v38), (.agg v39)] [.agg] fun r40 =>
                 C.call n_spec_l01Xor [(.agg v45), (.agg v46)] [.agg] fun r47 =>
                 C.call n_spec_l01Compare [(.agg r40), (.agg r47)] [(.int .i64)] fun r48 =>
                 cond (decide (r48 < 0)) (
                   jt []
                 ) (
                   ct3 [(.slice y28.a y28.n y28.c), (.int .i64 (IntKind.wrap .i64 (s3.2 + 1)))]
                 ))]),
             (C.ld .agg 32 (Addr.mk b3 0 none) fun v39 =>
              C.all [
                (C.ld .agg 32 p37 fun v38 =>
                 C.all [
                   (C.call n_spec_l01Xor [(.agg v38), (.agg v39)] [.agg] fun r40 =>
                    C.ld .agg 32 p44 fun v45 =>
                    C.call n_spec_l01Xor [(.agg v45), (.agg v46)] [.agg] fun r47 =>
                    C.call n_spec_l01Compare [(.agg r40), (.agg r47)] [(.int .i64)] fun r48 =>
                    cond (decide (r48 < 0)) (
                      jt []
                    ) (
                      ct3 [(.slice y28.a y28.n y28.c), (.int .i64 (IntKind.wrap .i64 (s3.2 + 1)))]
                    )),
                   (C.ld .agg 32 p44 fun v45 =>
                    C.call n_spec_l01Xor [(.agg v38), (.agg v39)] [.agg] fun r40 =>
                    C.call n_spec_l01Xor [(.agg v45), (.agg v46)] [.agg] fun r47 =>
                    C.call n_spec_l01Compare [(.agg r40), (.agg r47)] [(.int .i64)] fun r48 =>
                    cond (decide (r48 < 0)) (
                      jt []
                    ) (
                      ct3 [(.slice y28.a y28.n y28.c), (.int .i64 (IntKind.wrap .i64 (s3.2 + 1)))]
                    ))]),
                (C.ld .agg 32 p44 fun v45 =>
                 C.ld .agg 32 p37 fun v38 =>
                 C.call n_spec_l01Xor [(.agg v38), (.agg v39)] [.agg] fun r40 =>
                 C.call n_spec_l01Xor [(.agg v45), (.agg v46)] [.agg] fun r47 =>
                 C.call n_spec_l01Compare [(.agg r40), (.agg r47)] [(.int .i64)] fun r48 =>
                 cond (decide (r48 < 0)) (
                   jt []
                 ) (
                   ct3 [(.slice y28.a y28.n y28.c), (.int .i64 (IntKind.wrap .i64 (s3.2 + 1)))]
                 ))]),
             (C.ld .agg 32 p44 fun v45 =>
              C.all [
                (C.ld .agg 32 p37 fun v38 =>
                 C.ld .agg 32 (Addr.mk b3 0 none) fun v39 =>
                 C.call n_spec_l01Xor [(.agg v38), (.agg v39)] [.agg] fun r40 =>
                 C.call n_spec_l01Xor [(.agg v45), (.agg v46)] [.agg] fun r47 =>
                 C.call n_spec_l01Compare [(.agg r40), (.agg r47)] [(.int .i64)] fun r48 =>
                 cond (decide (r48 < 0)) (
                   jt []
                 ) (
                   ct3 [(.slice y28.a y28.n y28.c), (.int .i64 (IntKind.wrap .i64 (s3.2 + 1)))]
                 )),
                (C.ld .agg 32 (Addr.mk b3 0 none) fun v39 =>
                 C.ld .agg 32 p37 fun v38 =>
                 C.call n_spec_l01Xor [(.agg v38), (.agg v39)] [.agg] fun r40 =>
                 C.call n_spec_l01Xor [(.agg v45), (.agg v46)] [.agg] fun r47 =>
                 C.call n_spec_l01Compare [(.agg r40), (.agg r47)] [(.int .i64)] fun r48 =>
                 cond (decide (r48 < 0)) (
                   jt []
                 ) (
                   ct3 [(.slice y28.a y28.n y28.c), (.int .i64 (IntKind.wrap .i64 (s3.2 + 1)))]
                 ))])])]
      ) (
        C.all [
          (C.all [
             (C.all [
                (C.all [
                   (ct3 [(.slice y28.a y28.n y28.c), (.int .i64 (IntKind.wrap .i64 (s3.2 + 1)))]),
                   (ct3 [(.slice y28.a y28.n y28.c), (.int .i64 (IntKind.wrap .i64 (s3.2 + 1)))])]),
                (C.all [
                   (ct3 [(.slice y28.a y28.n y28.c), (.int .i64 (IntKind.wrap .i64 (s3.2 + 1)))]),
                   (ct3 [(.slice y28.a y28.n y28.c), (.int .i64 (IntKind.wrap .i64 (s3.2 + 1)))])]),
                (C.all [
                   (ct3 [(.slice y28.a y28.n y28.c), (.int .i64 (IntKind.wrap .i64 (s3.2 + 1)))]),
                   (ct3 [(.slice y28.a y28.n y28.c), (.int .i64 (IntKind.wrap .i64 (s3.2 + 1)))])])]),
             (C.all [
                (C.all [
                   (ct3 [(.slice y28.a y28.n y28.c), (.int .i64 (IntKind.wrap .i64 (s3.2 + 1)))]),
                   (ct3 [(.slice y28.a y28.n y28.c), (.int .i64 (IntKind.wrap .i64 (s3.2 + 1)))])]),
                (ct3 [(.slice y28.a y28.n y28.c), (.int .i64 (IntKind.wrap .i64 (s3.2 + 1)))])]),
             (C.all [
                (C.all [
                   (ct3 [(.slice y28.a y28.n y28.c), (.int .i64 (IntKind.wrap .i64 (s3.2 + 1)))]),
                   (ct3 [(.slice y28.a y28.n y28.c), (.int .i64 (IntKind.wrap .i64 (s3.2 + 1)))])]),
                (ct3 [(.slice y28.a y28.n y28.c), (.int .i64 (IntKind.wrap .i64 (s3.2 + 1)))])])]),
          (C.all [
             (C.all [
                (C.all [
                   (ct3 [(.slice y28.a y28.n y28.c), (.int .i64 (IntKind.wrap .i64 (s3.2 + 1)))]),
                   (ct3 [(.slice y28.a y28.n y28.c), (.int .i64 (IntKind.wrap .i64 (s3.2 + 1)))])]),
                (C.all [
                   (ct3 [(.slice y28.a y28.n y28.c), (.int .i64 (IntKind.wrap .i64 (s3.2 + 1)))]),
                   (ct3 [(.slice y28.a y28.n y28.c), (.int .i64 (IntKind.wrap .i64 (s3.2 + 1)))])]),
                (C.all [
                   (ct3 [(.slice y28.a y28.n y28.c), (.int .i64 (IntKind.wrap .i64 (s3.2 + 1)))]),
                   (ct3 [(.slice y28.a y28.n y28.c), (.int .i64 (IntKind.wrap .i64 (s3.2 + 1)))])])]),
             (C.all [
                (C.all [
                   (ct3 [(.slice y28.a y28.n y28.c), (.int .i64 (IntKind.wrap .i64 (s3.2 + 1)))]),
                   (ct3 [(.slice y28.a y28.n y28.c), (.int .i64 (IntKind.wrap .i64 (s3.2 + 1)))])]),
                (ct3 [(.slice y28.a y28.n y28.c), (.int .i64 (IntKind.wrap .i64 (s3.2 + 1)))])]),
             (C.all [
                (C.all [
                   (ct3 [(.slice y28.a y28.n y28.c), (.int .i64 (IntKind.wrap .i64 (s3.2 + 1)))]),
                   (ct3 [(.slice y28.a y28.n y28.c), (.int .i64 (IntKind.wrap .i64 (s3.2 + 1)))])]),
                (ct3 [(.slice y28.a y28.n y28.c), (.int .i64 (IntKind.wrap .i64 (s3.2 + 1)))])])]),
          (C.all [
             (C.all [
                (C.all [
                   (ct3 [(.slice y28.a y28.n y28.c), (.int .i64 (IntKind.wrap .i64 (s3.2 + 1)))]),
                   (ct3 [(.slice y28.a y28.n y28.c), (.int .i64 (IntKind.wrap .i64 (s3.2 + 1)))])]),
                (ct3 [(.slice y28.a y28.n y28.c), (.int .i64 (IntKind.wrap .i64 (s3.2 + 1)))])]),
             (C.all [
                (C.all [
                   (ct3 [(.slice y28.a y28.n y28.c), (.int .i64 (IntKind.wrap .i64 (s3.2 + 1)))]),
                   (ct3 [(.slice y28.a y28.n y28.c), (.int .i64 (IntKind.wrap .i64 (s3.2 + 1)))])]),
                (ct3 [(.slice y28.a y28.n y28.c), (.int .i64 (IntKind.wrap .i64 (s3.2 + 1)))])]),
             (C.all [
                (ct3 [(.slice y28.a y28.n y28.c), (.int .i64 (IntKind.wrap .i64 (s3.2 + 1)))]),
                (ct3 [(.slice y28.a y28.n y28.c), (.int .i64 (IntKind.wrap .i64 (s3.2 + 1)))])])]),
          (C.all [
             (C.all [
                (C.all [
                   (ct3 [(.slice y28.a y28.n y28.c), (.int .i64 (IntKind.wrap .i64 (s3.2 + 1)))]),
                   (ct3 [(.slice y28.a y28.n y28.c), (.int .i64 (IntKind.wrap .i64 (s3.2 + 1)))])]),
                (ct3 [(.slice y28.a y28.n y28.c), (.int .i64 (IntKind.wrap .i64 (s3.2 + 1)))])]),
             (C.all [
                (C.all [
                   (ct3 [(.slice y28.a y28.n y28.c), (.int .i64 (IntKind.wrap .i64 (s3.2 + 1)))]),
                   (ct3 [(.slice y28.a y28.n y28.c), (.int .i64 (IntKind.wrap .i64 (s3.2 + 1)))])]),
                (ct3 [(.slice y28.a y28.n y28.c), (.int .i64 (IntKind.wrap .i64 (s3.2 + 1)))])]),
             (C.all [
                (ct3 [(.slice y28.a y28.n y28.c), (.int .i64 (IntKind.wrap .i64 (s3.2 + 1)))]),
                (ct3 [(.slice y28.a y28.n y28.c), (.int .i64 (IntKind.wrap .i64 (s3.2 + 1)))])])])]
      )
    )
  ) (
    C.ret (.slice s3.1.a s3.1.n s3.1.c)
  )
theorem spec_l01Sort_eq (C : Comb) (x0 : Sl) (x1 : Array Value) : fT C Tryz.prog { loop := [(3, [(5, .slice), (6, (.int .i64))]), (8, [(7, (.int .i64))])], join := [(150, [])], anyOrder := [8], pure := [] } n_spec_l01Sort [(.slice x0.a x0.n x0.c), (.agg x1)] = spec_l01Sort C x0 x1 := by kernel_rfl
theorem spec_l01Sort_calls {R : Value → World → Prop} {w : World} (x0 : Sl) (x1 : Array Value) (h : (spec_l01Sort (real Tryz.prog R) x0 x1 : World → Prop) w) :
    Calls Tryz.prog n_spec_l01Sort [(.slice x0.a x0.n x0.c), (.agg x1)].toArray w fun e w' => ∃ v, e = .returned v ∧ R v w' := fT_sound mixed { loop := [(3, [(5, .slice), (6, (.int .i64))]), (8, [(7, (.int .i64))])], join := [(150, [])], anyOrder := [8], pure := [] } (by rw [spec_l01Sort_eq]; exact h)

/-- spec.l01Hash (105) -/
def spec_l01Hash (C : Comb) (x0 : Int) (x1 : Sl) : C.St :=
  C.new ty_impl_Key (.agg (Array.replicate 32 (.int .u8 0))) fun b4 =>
  C.call n_spec_l01Start [(.int .u8 x0)] [.agg] fun r6 =>
  C.call n_spec_l01End [(.agg r6), (.slice x1.a x1.n x1.c), (.int .i64 (x1.n : Int))] [.agg] fun r10 =>
  C.st 32 (Addr.mk b4 0 none) (.agg r10) <|
  C.ld .agg 32 (Addr.mk b4 0 none) fun z4 =>
  C.ret (.agg z4)
theorem spec_l01Hash_eq (C : Comb) (x0 : Int) (x1 : Sl) : fT C Tryz.prog { loop := [], join := [], anyOrder := [], pure := [] } n_spec_l01Hash [(.int .u8 x0), (.slice x1.a x1.n x1.c)] = spec_l01Hash C x0 x1 := by kernel_rfl
theorem spec_l01Hash_calls {R : Value → World → Prop} {w : World} (x0 : Int) (x1 : Sl) (h : (spec_l01Hash (real Tryz.prog R) x0 x1 : World → Prop) w) :
    Calls Tryz.prog n_spec_l01Hash [(.int .u8 x0), (.slice x1.a x1.n x1.c)].toArray w fun e w' => ∃ v, e = .returned v ∧ R v w' := fT_sound mixed { loop := [], join := [], anyOrder := [], pure := [] } (by rw [spec_l01Hash_eq]; exact h)

/-- slices.ContainsFunc[[]impl.Blob,impl.Blob] (106) -/
def slices_ContainsFunc_sl_impl_Blob_impl_Blob (C : Comb) (x0 : Sl) (x1 : Value) : C.St :=
  C.call n_slices_IndexFunc_sl_impl_Blob_impl_Blob [(.slice x0.a x0.n x0.c), x1] [(.int .i64)] fun r7 =>
  C.ret (.bool (decide (r7 ≥ 0)))
theorem slices_ContainsFunc_sl_impl_Blob_impl_Blob_eq (C : Comb) (x0 : Sl) (x1 : Value) : fT C Tryz.prog { loop := [], join := [], anyOrder := [], pure := [] } n_slices_ContainsFunc_sl_impl_Blob_impl_Blob [(.slice x0.a x0.n x0.c), x1] = slices_ContainsFunc_sl_impl_Blob_impl_Blob C x0 x1 := by kernel_rfl
theorem slices_ContainsFunc_sl_impl_Blob_impl_Blob_calls {R : Value → World → Prop} {w : World} (x0 : Sl) (x1 : Value) (h : (slices_ContainsFunc_sl_impl_Blob_impl_Blob (real Tryz.prog R) x0 x1 : World → Prop) w) :
    Calls Tryz.prog n_slices_ContainsFunc_sl_impl_Blob_impl_Blob [(.slice x0.a x0.n x0.c), x1].toArray w fun e w' => ∃ v, e = .returned v ∧ R v w' := fT_sound mixed { loop := [], join := [], anyOrder := [], pure := [] } (by rw [slices_ContainsFunc_sl_impl_Blob_impl_Blob_eq]; exact h)

/-- impl.ValidStore$1 (107) -/
def impl_ValidStore_1 (C : Comb) (x0 : Array Value) : C.St :=
  C.new ty_impl_Blob (.agg x0) fun b1 =>
  C.ld .agg 2 (Addr.mk b1 0 none) fun v3 =>
  C.call n_impl_ValidBlob [(.agg v3)] [.bool] fun r4 =>
  C.ret (.bool (!r4))
theorem impl_ValidStore_1_eq (C : Comb) (x0 : Array Value) : fT C Tryz.prog { loop := [], join := [], anyOrder := [], pure := [] } n_impl_ValidStore_1 [(.agg x0)] = impl_ValidStore_1 C x0 := by kernel_rfl
theorem impl_ValidStore_1_calls {R : Value → World → Prop} {w : World} (x0 : Array Value) (h : (impl_ValidStore_1 (real Tryz.prog R) x0 : World → Prop) w) :
    Calls Tryz.prog n_impl_ValidStore_1 [(.agg x0)].toArray w fun e w' => ∃ v, e = .returned v ∧ R v w' := fT_sound mixed { loop := [], join := [], anyOrder := [], pure := [] } (by rw [impl_ValidStore_1_eq]; exact h)

/-- slices.IsSortedFunc[[]impl.Key,impl.Key] (108) -/
def slices_IsSortedFunc_sl_impl_Key_impl_Key (C : Comb) (x0 : Sl) (x1 : Value) : C.St :=
  C.loop (TL [(.int .i64)]) (embL [(.int .i64)]) [(.int .i64 (IntKind.wrap .i64 ((x0.n : Int) - 1)))] fun s1 ct1 => C.any fun _ =>
  cond (decide (s1 > 0)) (
    C.draw <|
    C.ix x0.a x0.n 32 s1 fun p16 =>
    C.ld .agg 32 p16 fun v17 =>
    C.ix x0.a x0.n 32 (IntKind.wrap .i64 (s1 - 1)) fun p21 =>
    C.ld .agg 32 p21 fun v22 =>
    C.callV x1 [(.agg v17), (.agg v22)] [(.int .i64)] fun r23 =>
    cond (decide (r23 < 0)) (
      C.ret (.bool false)
    ) (
      ct1 [(.int .i64 (IntKind.wrap .i64 (s1 - 1)))]
    )
  ) (
    C.ret (.bool true)
  )
theorem slices_IsSortedFunc_sl_impl_Key_impl_Key_eq (C : Comb) (x0 : Sl) (x1 : Value) : fT C Tryz.prog { loop := [(2, [(5, (.int .i64))])], join := [], anyOrder := [4], pure := [] } n_slices_IsSortedFunc_sl_impl_Key_impl_Key [(.slice x0.a x0.n x0.c), x1] = slices_IsSortedFunc_sl_impl_Key_impl_Key C x0 x1 := by kernel_rfl
theorem slices_IsSortedFunc_sl_impl_Key_impl_Key_calls {R : Value → World → Prop} {w : World} (x0 : Sl) (x1 : Value) (h : (slices_IsSortedFunc_sl_impl_Key_impl_Key (real Tryz.prog R) x0 x1 : World → Prop) w) :
    Calls Tryz.prog n_slices_IsSortedFunc_sl_impl_Key_impl_Key [(.slice x0.a x0.n x0.c), x1].toArray w fun e w' => ∃ v, e = .returned v ∧ R v w' := fT_sound mixed { loop := [(2, [(5, (.int .i64))])], join := [], anyOrder := [4], pure := [] } (by rw [slices_IsSortedFunc_sl_impl_Key_impl_Key_eq]; exact h)

/-- impl.compareKeys (109) -/
def impl_compareKeys (C : Comb) (x0 : Array Value) (x1 : Array Value) : C.St :=
  C.new ty_impl_Key (.agg x0) fun b2 =>
  C.new ty_impl_Key (.agg x1) fun b3 =>
  C.draw <|
  C.sl (some (Addr.mk b2 0 none)) 32 32 1 none none none fun y5 =>
  C.sl (some (Addr.mk b3 0 none)) 32 32 1 none none none fun y6 =>
  C.callQ n_slices_Compare_sl_byte_byte [(.slice y5.a y5.n y5.c), (.slice y6.a y6.n y6.c)] [(.int .i64)] fun r7 =>
  C.ret (.int .i64 r7)
theorem impl_compareKeys_eq (C : Comb) (x0 : Array Value) (x1 : Array Value) : fT C Tryz.prog { loop := [], join := [], anyOrder := [], pure := [] } n_impl_compareKeys [(.agg x0), (.agg x1)] = impl_compareKeys C x0 x1 := by kernel_rfl
theorem impl_compareKeys_calls {R : Value → World → Prop} {w : World} (x0 : Array Value) (x1 : Array Value) (h : (impl_compareKeys (real Tryz.prog R) x0 x1 : World → Prop) w) :
    Calls Tryz.prog n_impl_compareKeys [(.agg x0), (.agg x1)].toArray w fun e w' => ∃ v, e = .returned v ∧ R v w' := fT_sound mixed { loop := [], join := [], anyOrder := [], pure := [] } (by rw [impl_compareKeys_eq]; exact h)

/-- (impl.Blob).key (110) -/
def impl_Blob_key (C : Comb) (x0 : Array Value) : C.St :=
  C.new ty_impl_Blob (.agg x0) fun b1 =>
  C.new ty_impl_Key (.agg (Array.replicate 32 (.int .u8 0))) fun b2 =>
  C.ld (.int .u8) 1 ((Addr.mk b1 0 none).add 0) fun v4 =>
  C.ld .slice 1 ((Addr.mk b1 0 none).add 1) fun v6 =>
  C.call n_impl_hash [(.int .u8 v4), (.slice v6.a v6.n v6.c)] [.agg] fun r7 =>
  C.st 32 (Addr.mk b2 0 none) (.agg r7) <|
  C.ld .agg 32 (Addr.mk b2 0 none) fun z6 =>
  C.ret (.agg z6)
theorem impl_Blob_key_eq (C : Comb) (x0 : Array Value) : fT C Tryz.prog { loop := [], join := [], anyOrder := [], pure := [] } n_impl_Blob_key [(.agg x0)] = impl_Blob_key C x0 := by kernel_rfl
theorem impl_Blob_key_calls {R : Value → World → Prop} {w : World} (x0 : Array Value) (h : (impl_Blob_key (real Tryz.prog R) x0 : World → Prop) w) :
    Calls Tryz.prog n_impl_Blob_key [(.agg x0)].toArray w fun e w' => ∃ v, e = .returned v ∧ R v w' := fT_sound mixed { loop := [], join := [], anyOrder := [], pure := [] } (by rw [impl_Blob_key_eq]; exact h)

/-- slices.BinarySearchFunc[[]impl.Key,impl.Key,impl.Key] (111) -/
def slices_BinarySearchFunc_sl_impl_Key_impl_Key_impl_Key (C : Comb) (x0 : Sl) (x1 : Array Value) (x2 : Value) : C.St :=
  C.new ty_impl_Key (.agg x1) fun b4 =>
  C.loop (TL [(.int .i64), (.int .i64)]) (embL [(.int .i64), (.int .i64)]) [(.int .i64 0), (.int .i64 (x0.n : Int))] fun s2 ct2 => C.any fun _ =>
  cond (decide (s2.1 < s2.2)) (
    C.draw <|
    C.ix x0.a x0.n 32 (IntKind.wrap .i64 ((Int.fdiv (IntKind.wrap .u64 ((IntKind.wrap .i64 (s2.1 + s2.2)))) (2 ^ 1)))) fun p27 =>
    C.ld .agg 32 p27 fun v28 =>
    C.ld .agg 32 (Addr.mk b4 0 none) fun v29 =>
    C.callV x2 [(.agg v28), (.agg v29)] [(.int .i64)] fun r30 =>
    cond (decide (r30 < 0)) (
      ct2 [(.int .i64 (IntKind.wrap .i64 ((IntKind.wrap .i64 ((Int.fdiv (IntKind.wrap .u64 ((IntKind.wrap .i64 (s2.1 + s2.2)))) (2 ^ 1)))) + 1))), (.int .i64 s2.2)]
    ) (
      ct2 [(.int .i64 s2.1), (.int .i64 (IntKind.wrap .i64 ((Int.fdiv (IntKind.wrap .u64 ((IntKind.wrap .i64 (s2.1 + s2.2)))) (2 ^ 1)))))]
    )
  ) (
    C.draw <|
    cond (decide (s2.1 < (x0.n : Int))) (
      C.ix x0.a x0.n 32 s2.1 fun p43 =>
      C.all [
        (C.ld .agg 32 p43 fun v44 =>
         C.ld .agg 32 (Addr.mk b4 0 none) fun v45 =>
         C.callV x2 [(.agg v44), (.agg v45)] [(.int .i64)] fun r46 =>
         C.ret (.tuple #[(.int .i64 s2.1), (.bool (r46 == 0))])),
        (C.ld .agg 32 (Addr.mk b4 0 none) fun v45 =>
         C.ld .agg 32 p43 fun v44 =>
         C.callV x2 [(.agg v44), (.agg v45)] [(.int .i64)] fun r46 =>
         C.ret (.tuple #[(.int .i64 s2.1), (.bool (r46 == 0))]))]
    ) (
      C.all [
        (C.ret (.tuple #[(.int .i64 s2.1), (.bool false)])),
        (C.ret (.tuple #[(.int .i64 s2.1), (.bool false)]))]
    )
  )
theorem slices_BinarySearchFunc_sl_impl_Key_impl_Key_impl_Key_eq (C : Comb) (x0 : Sl) (x1 : Array Value) (x2 : Value) : fT C Tryz.prog { loop := [(3, [(9, (.int .i64)), (10, (.int .i64))])], join := [], anyOrder := [5, 8], pure := [] } n_slices_BinarySearchFunc_sl_impl_Key_impl_Key_impl_Key [(.slice x0.a x0.n x0.c), (.agg x1), x2] = slices_BinarySearchFunc_sl_impl_Key_impl_Key_impl_Key C x0 x1 x2 := by kernel_rfl
theorem slices_BinarySearchFunc_sl_impl_Key_impl_Key_impl_Key_calls {R : Value → World → Prop} {w : World} (x0 : Sl) (x1 : Array Value) (x2 : Value) (h : (slices_BinarySearchFunc_sl_impl_Key_impl_Key_impl_Key (real Tryz.prog R) x0 x1 x2 : World → Prop) w) :
    Calls Tryz.prog n_slices_BinarySearchFunc_sl_impl_Key_impl_Key_impl_Key [(.slice x0.a x0.n x0.c), (.agg x1), x2].toArray w fun e w' => ∃ v, e = .returned v ∧ R v w' := fT_sound mixed { loop := [(3, [(9, (.int .i64)), (10, (.int .i64))])], join := [], anyOrder := [5, 8], pure := [] } (by rw [slices_BinarySearchFunc_sl_impl_Key_impl_Key_impl_Key_eq]; exact h)

/-- spec.l01Bytes (112) -/
def spec_l01Bytes (C : Comb) (x0 : Sl) (x1 : Sl) : C.St :=
  cond ((x0.n : Int) != (x1.n : Int)) (
    C.ret (.bool false)
  ) (
    C.loop (TL [(.int .i64)]) (embL [(.int .i64)]) [(.int .i64 0)] fun s1 ct1 => C.any fun _ =>
    cond (decide (s1 < (x0.n : Int))) (
      C.draw <|
      C.ix x0.a x0.n 1 s1 fun p19 =>
      C.ld (.int .u8) 1 p19 fun v20 =>
      C.ix x1.a x1.n 1 s1 fun p23 =>
      C.ld (.int .u8) 1 p23 fun v24 =>
      cond (v20 != v24) (
        C.ret (.bool false)
      ) (
        ct1 [(.int .i64 (IntKind.wrap .i64 (s1 + 1)))]
      )
    ) (
      C.ret (.bool true)
    )
  )
theorem spec_l01Bytes_eq (C : Comb) (x0 : Sl) (x1 : Sl) : fT C Tryz.prog { loop := [(4, [(5, (.int .i64))])], join := [], anyOrder := [], pure := [] } n_spec_l01Bytes [(.slice x0.a x0.n x0.c), (.slice x1.a x1.n x1.c)] = spec_l01Bytes C x0 x1 := by kernel_rfl
theorem spec_l01Bytes_calls {R : Value → World → Prop} {w : World} (x0 : Sl) (x1 : Sl) (h : (spec_l01Bytes (real Tryz.prog R) x0 x1 : World → Prop) w) :
    Calls Tryz.prog n_spec_l01Bytes [(.slice x0.a x0.n x0.c), (.slice x1.a x1.n x1.c)].toArray w fun e w' => ∃ v, e = .returned v ∧ R v w' := fT_sound mixed { loop := [(4, [(5, (.int .i64))])], join := [], anyOrder := [], pure := [] } (by rw [spec_l01Bytes_eq]; exact h)

/-- slices.Insert[[]impl.Key,impl.Key] (113) -/
def slices_Insert_sl_impl_Key_impl_Key (C : Comb) (x0 : Sl) (x1 : Int) (x2 : Sl) : C.St :=
  C.sl x0.a x0.n x0.c 32 (some x1) none none fun y12 =>
  cond ((x2.n : Int) == 0) (
    C.ret (.slice x0.a x0.n x0.c)
  ) (
    cond (x1 == (x0.n : Int)) (
      C.sem (Builtin.append_ #[ty_sl_impl_Key, ty_sl_impl_Key] ty_sl_impl_Key #[(.slice x0.a x0.n x0.c), (.slice x2.a x2.n x2.c)]) .slice fun y25 =>
      C.ret (.slice y25.a y25.n y25.c)
    ) (
      cond (decide ((IntKind.wrap .i64 ((x0.n : Int) + (x2.n : Int))) > (x0.c : Int))) (
        C.sl x0.a x0.n x0.c 32 none (some x1) none fun y34 =>
        C.sem (Builtin.append_ #[ty_sl_impl_Key, ty_int] ty_sl_impl_Key #[(.slice y34.a y34.n y34.c), (.int .i64 (IntKind.wrap .i64 ((IntKind.wrap .i64 ((x0.n : Int) + (x2.n : Int))) - x1)))]) .slice fun y40 =>
        C.sl y40.a y40.n y40.c 32 (some x1) none none fun y43 =>
        C.sem (Builtin.copy_ #[ty_sl_impl_Key, ty_sl_impl_Key] ty_int #[(.slice y43.a y43.n y43.c), (.slice x2.a x2.n x2.c)]) (.int .i64) fun y45 =>
        C.draw <|
        C.sl y40.a y40.n y40.c 32 (some (IntKind.wrap .i64 (x1 + (x2.n : Int)))) none none fun y50 =>
        C.sl x0.a x0.n x0.c 32 (some x1) none none fun y53 =>
        C.sem (Builtin.copy_ #[ty_sl_impl_Key, ty_sl_impl_Key] ty_int #[(.slice y50.a y50.n y50.c), (.slice y53.a y53.n y53.c)]) (.int .i64) fun y54 =>
        C.ret (.slice y40.a y40.n y40.c)
      ) (
        C.sl x0.a x0.n x0.c 32 none (some (IntKind.wrap .i64 ((x0.n : Int) + (x2.n : Int)))) none fun y60 =>
        C.sl y60.a y60.n y60.c 32 (some (IntKind.wrap .i64 (x1 + (x2.n : Int)))) none none fun y66 =>
        C.ext n_slices_overlaps_impl_Key [(.slice x2.a x2.n x2.c), (.slice y66.a y66.n y66.c)] [.bool] fun r67 =>
        cond (!r67) (
          C.join (TL []) (embL []) (fun s16 => C.any fun _ =>
              C.sl y60.a y60.n y60.c 32 (some x1) none none fun y80 =>
              C.sem (Builtin.copy_ #[ty_sl_impl_Key, ty_sl_impl_Key] ty_int #[(.slice y80.a y80.n y80.c), (.slice x2.a x2.n x2.c)]) (.int .i64) fun y82 =>
              C.ret (.slice y60.a y60.n y60.c)
            ) fun jt =>
          C.draw <|
          C.sl y60.a y60.n y60.c 32 (some (IntKind.wrap .i64 (x1 + (x2.n : Int)))) none none fun y73 =>
          C.sl y60.a y60.n y60.c 32 (some x1) none none fun y76 =>
          C.sem (Builtin.copy_ #[ty_sl_impl_Key, ty_sl_impl_Key] ty_int #[(.slice y73.a y73.n y73.c), (.slice y76.a y76.n y76.c)]) (.int .i64) fun y77 =>
          jt []
        ) (
          C.sl y60.a y60.n y60.c 32 (some (x0.n : Int)) none none fun y86 =>
          C.sem (Builtin.copy_ #[ty_sl_impl_Key, ty_sl_impl_Key] ty_int #[(.slice y86.a y86.n y86.c), (.slice x2.a x2.n x2.c)]) (.int .i64) fun y88 =>
          C.sl y60.a y60.n y60.c 32 (some x1) none none fun y91 =>
          C.call n_slices_rotateRight_impl_Key [(.slice y91.a y91.n y91.c), (.int .i64 (x2.n : Int))] [] fun r93 =>
          C.ret (.slice y60.a y60.n y60.c)
        )
      )
    )
  )
theorem slices_Insert_sl_impl_Key_impl_Key_eq (C : Comb) (x0 : Sl) (x1 : Int) (x2 : Sl) : fT C Tryz.prog { loop := [], join := [(46, [])], anyOrder := [11, 15], pure := [] } n_slices_Insert_sl_impl_Key_impl_Key [(.slice x0.a x0.n x0.c), (.int .i64 x1), (.slice x2.a x2.n x2.c)] = slices_Insert_sl_impl_Key_impl_Key C x0 x1 x2 := by kernel_rfl
theorem slices_Insert_sl_impl_Key_impl_Key_calls {R : Value → World → Prop} {w : World} (x0 : Sl) (x1 : Int) (x2 : Sl) (h : (slices_Insert_sl_impl_Key_impl_Key (real Tryz.prog R) x0 x1 x2 : World → Prop) w) :
    Calls Tryz.prog n_slices_Insert_sl_impl_Key_impl_Key [(.slice x0.a x0.n x0.c), (.int .i64 x1), (.slice x2.a x2.n x2.c)].toArray w fun e w' => ∃ v, e = .returned v ∧ R v w' := fT_sound mixed { loop := [], join := [(46, [])], anyOrder := [11, 15], pure := [] } (by rw [slices_Insert_sl_impl_Key_impl_Key_eq]; exact h)

/-- slices.Insert[[]impl.Blob,impl.Blob] (114) -/
def slices_Insert_sl_impl_Blob_impl_Blob (C : Comb) (x0 : Sl) (x1 : Int) (x2 : Sl) : C.St :=
  C.sl x0.a x0.n x0.c 2 (some x1) none none fun y12 =>
  cond ((x2.n : Int) == 0) (
    C.ret (.slice x0.a x0.n x0.c)
  ) (
    cond (x1 == (x0.n : Int)) (
      C.sem (Builtin.append_ #[ty_sl_impl_Blob, ty_sl_impl_Blob] ty_sl_impl_Blob #[(.slice x0.a x0.n x0.c), (.slice x2.a x2.n x2.c)]) .slice fun y25 =>
      C.ret (.slice y25.a y25.n y25.c)
    ) (
      cond (decide ((IntKind.wrap .i64 ((x0.n : Int) + (x2.n : Int))) > (x0.c : Int))) (
        C.sl x0.a x0.n x0.c 2 none (some x1) none fun y34 =>
        C.sem (Builtin.append_ #[ty_sl_impl_Blob, ty_int] ty_sl_impl_Blob #[(.slice y34.a y34.n y34.c), (.int .i64 (IntKind.wrap .i64 ((IntKind.wrap .i64 ((x0.n : Int) + (x2.n : Int))) - x1)))]) .slice fun y40 =>
        C.sl y40.a y40.n y40.c 2 (some x1) none none fun y43 =>
        C.sem (Builtin.copy_ #[ty_sl_impl_Blob, ty_sl_impl_Blob] ty_int #[(.slice y43.a y43.n y43.c), (.slice x2.a x2.n x2.c)]) (.int .i64) fun y45 =>
        C.draw <|
        C.sl y40.a y40.n y40.c 2 (some (IntKind.wrap .i64 (x1 + (x2.n : Int)))) none none fun y50 =>
        C.sl x0.a x0.n x0.c 2 (some x1) none none fun y53 =>
        C.sem (Builtin.copy_ #[ty_sl_impl_Blob, ty_sl_impl_Blob] ty_int #[(.slice y50.a y50.n y50.c), (.slice y53.a y53.n y53.c)]) (.int .i64) fun y54 =>
        C.ret (.slice y40.a y40.n y40.c)
      ) (
        C.sl x0.a x0.n x0.c 2 none (some (IntKind.wrap .i64 ((x0.n : Int) + (x2.n : Int)))) none fun y60 =>
        C.sl y60.a y60.n y60.c 2 (some (IntKind.wrap .i64 (x1 + (x2.n : Int)))) none none fun y66 =>
        C.ext n_slices_overlaps_impl_Blob [(.slice x2.a x2.n x2.c), (.slice y66.a y66.n y66.c)] [.bool] fun r67 =>
        cond (!r67) (
          C.join (TL []) (embL []) (fun s16 => C.any fun _ =>
              C.sl y60.a y60.n y60.c 2 (some x1) none none fun y80 =>
              C.sem (Builtin.copy_ #[ty_sl_impl_Blob, ty_sl_impl_Blob] ty_int #[(.slice y80.a y80.n y80.c), (.slice x2.a x2.n x2.c)]) (.int .i64) fun y82 =>
              C.ret (.slice y60.a y60.n y60.c)
            ) fun jt =>
          C.draw <|
          C.sl y60.a y60.n y60.c 2 (some (IntKind.wrap .i64 (x1 + (x2.n : Int)))) none none fun y73 =>
          C.sl y60.a y60.n y60.c 2 (some x1) none none fun y76 =>
          C.sem (Builtin.copy_ #[ty_sl_impl_Blob, ty_sl_impl_Blob] ty_int #[(.slice y73.a y73.n y73.c), (.slice y76.a y76.n y76.c)]) (.int .i64) fun y77 =>
          jt []
        ) (
          C.sl y60.a y60.n y60.c 2 (some (x0.n : Int)) none none fun y86 =>
          C.sem (Builtin.copy_ #[ty_sl_impl_Blob, ty_sl_impl_Blob] ty_int #[(.slice y86.a y86.n y86.c), (.slice x2.a x2.n x2.c)]) (.int .i64) fun y88 =>
          C.sl y60.a y60.n y60.c 2 (some x1) none none fun y91 =>
          C.call n_slices_rotateRight_impl_Blob [(.slice y91.a y91.n y91.c), (.int .i64 (x2.n : Int))] [] fun r93 =>
          C.ret (.slice y60.a y60.n y60.c)
        )
      )
    )
  )
theorem slices_Insert_sl_impl_Blob_impl_Blob_eq (C : Comb) (x0 : Sl) (x1 : Int) (x2 : Sl) : fT C Tryz.prog { loop := [], join := [(46, [])], anyOrder := [11, 15], pure := [] } n_slices_Insert_sl_impl_Blob_impl_Blob [(.slice x0.a x0.n x0.c), (.int .i64 x1), (.slice x2.a x2.n x2.c)] = slices_Insert_sl_impl_Blob_impl_Blob C x0 x1 x2 := by kernel_rfl
theorem slices_Insert_sl_impl_Blob_impl_Blob_calls {R : Value → World → Prop} {w : World} (x0 : Sl) (x1 : Int) (x2 : Sl) (h : (slices_Insert_sl_impl_Blob_impl_Blob (real Tryz.prog R) x0 x1 x2 : World → Prop) w) :
    Calls Tryz.prog n_slices_Insert_sl_impl_Blob_impl_Blob [(.slice x0.a x0.n x0.c), (.int .i64 x1), (.slice x2.a x2.n x2.c)].toArray w fun e w' => ∃ v, e = .returned v ∧ R v w' := fT_sound mixed { loop := [], join := [(46, [])], anyOrder := [11, 15], pure := [] } (by rw [slices_Insert_sl_impl_Blob_impl_Blob_eq]; exact h)

/-- (impl.Blob).copied (115) -/
def impl_Blob_copied (C : Comb) (x0 : Array Value) : C.St :=
  C.new ty_impl_Blob (.agg x0) fun b1 =>
  C.new ty_impl_Blob (.agg (#[(.int .u8 0), (.slice none 0 0)])) fun b2 =>
  C.draw <|
  C.ld (.int .u8) 1 ((Addr.mk b1 0 none).add 0) fun v4 =>
  C.ld .slice 1 ((Addr.mk b1 0 none).add 1) fun v6 =>
  C.call n_slices_Clone_sl_byte_byte [(.slice v6.a v6.n v6.c)] [.slice] fun r7 =>
  C.chk [⟨1, 1, ((Addr.mk b1 0 none).add 0), (.int .u8), v4⟩] <|
  C.pur (Instr.build ty_impl_Blob #[(0, (.int .u8 v4)), (1, (.slice r7.a r7.n r7.c))]) .agg fun y8 =>
  C.st 2 (Addr.mk b2 0 none) (.agg y8) <|
  C.ld .agg 2 (Addr.mk b2 0 none) fun z7 =>
  C.ret (.agg z7)
theorem impl_Blob_copied_eq (C : Comb) (x0 : Array Value) : fT C Tryz.prog { loop := [], join := [], anyOrder := [1], pure := [] } n_impl_Blob_copied [(.agg x0)] = impl_Blob_copied C x0 := by kernel_rfl
theorem impl_Blob_copied_calls {R : Value → World → Prop} {w : World} (x0 : Array Value) (h : (impl_Blob_copied (real Tryz.prog R) x0 : World → Prop) w) :
    Calls Tryz.prog n_impl_Blob_copied [(.agg x0)].toArray w fun e w' => ∃ v, e = .returned v ∧ R v w' := fT_sound mixed { loop := [], join := [], anyOrder := [1], pure := [] } (by rw [impl_Blob_copied_eq]; exact h)

/-- spec.l04Entry (116) -/
def spec_l04Entry (C : Comb) (x0 : Addr) : C.St :=
  C.ld .str 1 (x0.add 0) fun v6 =>
  C.call n_spec_l04Name [(.string v6)] [.bool] fun r7 =>
  cond r7 (
    C.ld .str 1 (x0.add 1) fun v12 =>
    C.ret (.bool (decide ((v12.size : Int) ≤ 64)))
  ) (
    C.ret (.bool false)
  )
theorem spec_l04Entry_eq (C : Comb) (x0 : Addr) : fT C Tryz.prog { loop := [], join := [], anyOrder := [], pure := [] } n_spec_l04Entry [(.pointer (some x0))] = spec_l04Entry C x0 := by kernel_rfl
theorem spec_l04Entry_calls {R : Value → World → Prop} {w : World} (x0 : Addr) (h : (spec_l04Entry (real Tryz.prog R) x0 : World → Prop) w) :
    Calls Tryz.prog n_spec_l04Entry [(.pointer (some x0))].toArray w fun e w' => ∃ v, e = .returned v ∧ R v w' := fT_sound mixed { loop := [], join := [], anyOrder := [], pure := [] } (by rw [spec_l04Entry_eq]; exact h)

/-- impl.ValidEntry (117) -/
def impl_ValidEntry (C : Comb) (x0 : Array Value) : C.St :=
  C.new ty_impl_Entry (.agg x0) fun b1 =>
  C.ld .str 1 ((Addr.mk b1 0 none).add 0) fun v4 =>
  C.call n_impl_isName [(.string v4)] [.bool] fun r5 =>
  cond r5 (
    C.ld .str 1 ((Addr.mk b1 0 none).add 1) fun v8 =>
    C.ret (.bool (decide ((v8.size : Int) ≤ 64)))
  ) (
    C.ret (.bool false)
  )
theorem impl_ValidEntry_eq (C : Comb) (x0 : Array Value) : fT C Tryz.prog { loop := [], join := [], anyOrder := [], pure := [] } n_impl_ValidEntry [(.agg x0)] = impl_ValidEntry C x0 := by kernel_rfl
theorem impl_ValidEntry_calls {R : Value → World → Prop} {w : World} (x0 : Array Value) (h : (impl_ValidEntry (real Tryz.prog R) x0 : World → Prop) w) :
    Calls Tryz.prog n_impl_ValidEntry [(.agg x0)].toArray w fun e w' => ∃ v, e = .returned v ∧ R v w' := fT_sound mixed { loop := [], join := [], anyOrder := [], pure := [] } (by rw [impl_ValidEntry_eq]; exact h)

/-- impl.hash (118) -/
def impl_hash (C : Comb) (x0 : Int) (x1 : Sl) : C.St :=
  C.new ty_impl_Key (.agg (Array.replicate 32 (.int .u8 0))) fun b4 =>
  C.call n_impl_size_byte [(.slice x1.a x1.n x1.c)] [(.int .i64)] fun r10 =>
  C.call n_impl_padding [(.int .i64 r10)] [.slice] fun r11 =>
  C.sem (Instr.buildSlice ty_sl_sl_uint8 2 #[(0, (.slice x1.a x1.n x1.c)), (1, (.slice r11.a r11.n r11.c))]) .slice fun y12 =>
  C.call n_slices_Concat_sl_byte_byte [(.slice y12.a y12.n y12.c)] [.slice] fun r13 =>
  C.call n_impl_blocks [(.slice r13.a r13.n r13.c)] [.slice, .slice] fun r14 =>
  C.call n_impl_StartState [(.int .u8 x0)] [.agg] fun r18 =>
  C.call n_impl_mixed [(.agg r18), (.slice r14.1.a r14.1.n r14.1.c)] [.agg] fun r20 =>
  C.call n_impl_keyOf [(.agg r20)] [.agg] fun r21 =>
  C.st 32 (Addr.mk b4 0 none) (.agg r21) <|
  C.ld .agg 32 (Addr.mk b4 0 none) fun z10 =>
  C.ret (.agg z10)
theorem impl_hash_eq (C : Comb) (x0 : Int) (x1 : Sl) : fT C Tryz.prog { loop := [], join := [], anyOrder := [], pure := [] } n_impl_hash [(.int .u8 x0), (.slice x1.a x1.n x1.c)] = impl_hash C x0 x1 := by kernel_rfl
theorem impl_hash_calls {R : Value → World → Prop} {w : World} (x0 : Int) (x1 : Sl) (h : (impl_hash (real Tryz.prog R) x0 x1 : World → Prop) w) :
    Calls Tryz.prog n_impl_hash [(.int .u8 x0), (.slice x1.a x1.n x1.c)].toArray w fun e w' => ∃ v, e = .returned v ∧ R v w' := fT_sound mixed { loop := [], join := [], anyOrder := [], pure := [] } (by rw [impl_hash_eq]; exact h)

/-- slices.IndexFunc[[]impl.Key,impl.Key] (119) -/
def slices_IndexFunc_sl_impl_Key_impl_Key (C : Comb) (x0 : Sl) (x1 : Value) : C.St :=
  C.loop (TL [(.int .i64)]) (embL [(.int .i64)]) [(.int .i64 0)] fun s1 ct1 => C.any fun _ =>
  cond (decide (s1 < (x0.n : Int))) (
    C.ix x0.a x0.n 32 s1 fun p14 =>
    C.ld .agg 32 p14 fun v15 =>
    C.callV x1 [(.agg v15)] [.bool] fun r16 =>
    cond r16 (
      C.ret (.int .i64 s1)
    ) (
      ct1 [(.int .i64 (IntKind.wrap .i64 (s1 + 1)))]
    )
  ) (
    C.ret (.int .i64 (-1))
  )
theorem slices_IndexFunc_sl_impl_Key_impl_Key_eq (C : Comb) (x0 : Sl) (x1 : Value) : fT C Tryz.prog { loop := [(2, [(8, (.int .i64))])], join := [], anyOrder := [], pure := [] } n_slices_IndexFunc_sl_impl_Key_impl_Key [(.slice x0.a x0.n x0.c), x1] = slices_IndexFunc_sl_impl_Key_impl_Key C x0 x1 := by kernel_rfl
theorem slices_IndexFunc_sl_impl_Key_impl_Key_calls {R : Value → World → Prop} {w : World} (x0 : Sl) (x1 : Value) (h : (slices_IndexFunc_sl_impl_Key_impl_Key (real Tryz.prog R) x0 x1 : World → Prop) w) :
    Calls Tryz.prog n_slices_IndexFunc_sl_impl_Key_impl_Key [(.slice x0.a x0.n x0.c), x1].toArray w fun e w' => ∃ v, e = .returned v ∧ R v w' := fT_sound mixed { loop := [(2, [(8, (.int .i64))])], join := [], anyOrder := [], pure := [] } (by rw [slices_IndexFunc_sl_impl_Key_impl_Key_eq]; exact h)

/-- slices.IndexFunc[[][]impl.Key,[]impl.Key] (120) -/
def slices_IndexFunc_sl_sl_impl_Key_sl_impl_Key (C : Comb) (x0 : Sl) (x1 : Value) : C.St :=
  C.loop (TL [(.int .i64)]) (embL [(.int .i64)]) [(.int .i64 0)] fun s1 ct1 => C.any fun _ =>
  cond (decide (s1 < (x0.n : Int))) (
    C.ix x0.a x0.n 1 s1 fun p14 =>
    C.ld .slice 1 p14 fun v15 =>
    C.callV x1 [(.slice v15.a v15.n v15.c)] [.bool] fun r16 =>
    cond r16 (
      C.ret (.int .i64 s1)
    ) (
      ct1 [(.int .i64 (IntKind.wrap .i64 (s1 + 1)))]
    )
  ) (
    C.ret (.int .i64 (-1))
  )
theorem slices_IndexFunc_sl_sl_impl_Key_sl_impl_Key_eq (C : Comb) (x0 : Sl) (x1 : Value) : fT C Tryz.prog { loop := [(2, [(8, (.int .i64))])], join := [], anyOrder := [], pure := [] } n_slices_IndexFunc_sl_sl_impl_Key_sl_impl_Key [(.slice x0.a x0.n x0.c), x1] = slices_IndexFunc_sl_sl_impl_Key_sl_impl_Key C x0 x1 := by kernel_rfl
theorem slices_IndexFunc_sl_sl_impl_Key_sl_impl_Key_calls {R : Value → World → Prop} {w : World} (x0 : Sl) (x1 : Value) (h : (slices_IndexFunc_sl_sl_impl_Key_sl_impl_Key (real Tryz.prog R) x0 x1 : World → Prop) w) :
    Calls Tryz.prog n_slices_IndexFunc_sl_sl_impl_Key_sl_impl_Key [(.slice x0.a x0.n x0.c), x1].toArray w fun e w' => ∃ v, e = .returned v ∧ R v w' := fT_sound mixed { loop := [(2, [(8, (.int .i64))])], join := [], anyOrder := [], pure := [] } (by rw [slices_IndexFunc_sl_sl_impl_Key_sl_impl_Key_eq]; exact h)

/-- slices.Clone[[]impl.Key,impl.Key] (121) -/
def slices_Clone_sl_impl_Key_impl_Key (C : Comb) (x0 : Sl) : C.St :=
  C.pur (eqB .eql ty_sl_impl_Key (.tmp 3) (.const (.slice none 0 0)) (.slice x0.a x0.n x0.c) (.slice none 0 0)) .bool fun y4 =>
  cond y4 (
    C.ret (.slice none 0 0)
  ) (
    C.sem (Instr.buildSlice ty_sl_impl_Key 0 #[]) .slice fun y5 =>
    C.sem (Builtin.append_ #[ty_sl_impl_Key, ty_sl_impl_Key] ty_sl_impl_Key #[(.slice y5.a y5.n y5.c), (.slice x0.a x0.n x0.c)]) .slice fun y7 =>
    C.ret (.slice y7.a y7.n y7.c)
  )
theorem slices_Clone_sl_impl_Key_impl_Key_eq (C : Comb) (x0 : Sl) : fT C Tryz.prog { loop := [], join := [], anyOrder := [], pure := [] } n_slices_Clone_sl_impl_Key_impl_Key [(.slice x0.a x0.n x0.c)] = slices_Clone_sl_impl_Key_impl_Key C x0 := by kernel_rfl
theorem slices_Clone_sl_impl_Key_impl_Key_calls {R : Value → World → Prop} {w : World} (x0 : Sl) (h : (slices_Clone_sl_impl_Key_impl_Key (real Tryz.prog R) x0 : World → Prop) w) :
    Calls Tryz.prog n_slices_Clone_sl_impl_Key_impl_Key [(.slice x0.a x0.n x0.c)].toArray w fun e w' => ∃ v, e = .returned v ∧ R v w' := fT_sound mixed { loop := [], join := [], anyOrder := [], pure := [] } (by rw [slices_Clone_sl_impl_Key_impl_Key_eq]; exact h)

/-- slices.Compact[[]impl.Key,impl.Key] (123) -/
def slices_Compact_sl_impl_Key_impl_Key (C : Comb) (x0 : Sl) : C.St :=
  cond (decide ((x0.n : Int) < 2)) (
    C.ret (.slice x0.a x0.n x0.c)
  ) (
    C.loop (TL [(.int .i64)]) (embL [(.int .i64)]) [(.int .i64 1)] fun s1 ct1 => C.any fun _ =>
    cond (decide (s1 < (x0.n : Int))) (
      C.draw <|
      C.ix x0.a x0.n 32 s1 fun p18 =>
      C.ld .agg 32 p18 fun v19 =>
      C.ix x0.a x0.n 32 (IntKind.wrap .i64 (s1 - 1)) fun p23 =>
      C.ld .agg 32 p23 fun v24 =>
      C.pur (eqB .eql ty_impl_Key (.tmp 19) (.tmp 24) (.agg v19) (.agg v24)) .bool fun y25 =>
      cond y25 (
        C.sl x0.a x0.n x0.c 32 (some s1) none none fun y28 =>
        C.loop (TL [(.int .i64), (.int .i64)]) (embL [(.int .i64), (.int .i64)]) [(.int .i64 s1), (.int .i64 1)] fun s8 ct8 => C.any fun _ =>
        cond (decide (s8.2 < (y28.n : Int))) (
          C.draw <|
          C.ix y28.a y28.n 32 s8.2 fun p37 =>
          C.ld .agg 32 p37 fun v38 =>
          C.ix y28.a y28.n 32 (IntKind.wrap .i64 (s8.2 - 1)) fun p42 =>
          C.ld .agg 32 p42 fun v43 =>
          C.pur (eqB .neq ty_impl_Key (.tmp 38) (.tmp 43) (.agg v38) (.agg v43)) .bool fun y44 =>
          cond y44 (
            C.ix y28.a y28.n 32 s8.2 fun p49 =>
            C.ld .agg 32 p49 fun v50 =>
            C.ix x0.a x0.n 32 s8.1 fun p51 =>
            C.st 32 p51 (.agg v50) <|
            ct8 [(.int .i64 (IntKind.wrap .i64 (s8.1 + 1))), (.int .i64 (IntKind.wrap .i64 (s8.2 + 1)))]
          ) (
            ct8 [(.int .i64 s8.1), (.int .i64 (IntKind.wrap .i64 (s8.2 + 1)))]
          )
        ) (
          C.sl x0.a x0.n x0.c 32 (some s8.1) none none fun y56 =>
          C.sem (Builtin.clear_ #[ty_sl_impl_Key] ty_x #[(.slice y56.a y56.n y56.c)]) .val fun yq18 =>
          C.sl x0.a x0.n x0.c 32 none (some s8.1) none fun y59 =>
          C.ret (.slice y59.a y59.n y59.c)
        )
      ) (
        ct1 [(.int .i64 (IntKind.wrap .i64 (s1 + 1)))]
      )
    ) (
      C.ret (.slice x0.a x0.n x0.c)
    )
  )
theorem slices_Compact_sl_impl_Key_impl_Key_eq (C : Comb) (x0 : Sl) : fT C Tryz.prog { loop := [(4, [(3, (.int .i64))]), (9, [(3, (.int .i64)), (5, (.int .i64))])], join := [], anyOrder := [], pure := [] } n_slices_Compact_sl_impl_Key_impl_Key [(.slice x0.a x0.n x0.c)] = slices_Compact_sl_impl_Key_impl_Key C x0 := by kernel_rfl
theorem slices_Compact_sl_impl_Key_impl_Key_calls {R : Value → World → Prop} {w : World} (x0 : Sl) (h : (slices_Compact_sl_impl_Key_impl_Key (real Tryz.prog R) x0 : World → Prop) w) :
    Calls Tryz.prog n_slices_Compact_sl_impl_Key_impl_Key [(.slice x0.a x0.n x0.c)].toArray w fun e w' => ∃ v, e = .returned v ∧ R v w' := fT_sound mixed { loop := [(4, [(3, (.int .i64))]), (9, [(3, (.int .i64)), (5, (.int .i64))])], join := [], anyOrder := [], pure := [] } (by rw [slices_Compact_sl_impl_Key_impl_Key_eq]; exact h)

/-- (*impl.shop).reach$1 (124) -/
def ptr_impl_shop_reach_1 (C : Comb) (x0 : Array Value) (x1 : Addr) (x2 : Addr) : C.St :=
  C.new ty_impl_Key (.agg x0) fun b3 =>
  C.ld .val 1 x1 fun v4 =>
  C.ld .agg 32 (Addr.mk b3 0 none) fun v5 =>
  C.semL (Instr.lookup ty_map_impl_Key_bool v4 (.agg v5) false) [.bool] fun y6 =>
  cond (!y6) (
    C.ld .val 1 x1 fun v8 =>
    C.ld .agg 32 (Addr.mk b3 0 none) fun v9 =>
    C.eff (Instr.mapUpdate ty_map_impl_Key_bool v8 (.agg v9) (.bool true)) <|
    C.ld .slice 1 x2 fun v10 =>
    C.ld .agg 32 (Addr.mk b3 0 none) fun v11 =>
    C.sem (Instr.buildSlice ty_sl_impl_Key 1 #[(0, (.agg v11))]) .slice fun y12 =>
    C.sem (Builtin.append_ #[ty_sl_impl_Key, ty_sl_impl_Key] ty_sl_impl_Key #[(.slice v10.a v10.n v10.c), (.slice y12.a y12.n y12.c)]) .slice fun y13 =>
    C.st 1 x2 (.slice y13.a y13.n y13.c) <|
    C.ret (.tuple #[])
  ) (
    C.ret (.tuple #[])
  )
theorem ptr_impl_shop_reach_1_eq (C : Comb) (x0 : Array Value) (x1 : Addr) (x2 : Addr) : fT C Tryz.prog { loop := [], join := [], anyOrder := [], pure := [] } n_ptr_impl_shop_reach_1 [(.agg x0), (.pointer (some x1)), (.pointer (some x2))] = ptr_impl_shop_reach_1 C x0 x1 x2 := by kernel_rfl
theorem ptr_impl_shop_reach_1_calls {R : Value → World → Prop} {w : World} (x0 : Array Value) (x1 : Addr) (x2 : Addr) (h : (ptr_impl_shop_reach_1 (real Tryz.prog R) x0 x1 x2 : World → Prop) w) :
    Calls Tryz.prog n_ptr_impl_shop_reach_1 [(.agg x0), (.pointer (some x1)), (.pointer (some x2))].toArray w fun e w' => ∃ v, e = .returned v ∧ R v w' := fT_sound mixed { loop := [], join := [], anyOrder := [], pure := [] } (by rw [ptr_impl_shop_reach_1_eq]; exact h)

/-- spec.l01Xor (125) -/
def spec_l01Xor (C : Comb) (x0 : Array Value) (x1 : Array Value) : C.St :=
  C.new ty_impl_Key (.agg x0) fun b2 =>
  C.new ty_impl_Key (.agg x1) fun b3 =>
  C.new ty_impl_Key (.agg (Array.replicate 32 (.int .u8 0))) fun b4 =>
  C.loop (TL [(.int .i64)]) (embL [(.int .i64)]) [(.int .i64 0)] fun s4 ct4 => C.any fun _ =>
  cond (decide (s4 < 32)) (
    C.draw <|
    C.ix (some (Addr.mk b2 0 none)) 32 1 s4 fun p11 =>
    C.ld (.int .u8) 1 p11 fun v12 =>
    C.ix (some (Addr.mk b3 0 none)) 32 1 s4 fun p14 =>
    C.ld (.int .u8) 1 p14 fun v15 =>
    C.ix (some (Addr.mk b2 0 none)) 32 1 s4 fun p17 =>
    C.st 1 p17 (.int .u8 (bitsI .xor .u8 v12 v15)) <|
    ct4 [(.int .i64 (IntKind.wrap .i64 (s4 + 1)))]
  ) (
    C.ld .agg 32 (Addr.mk b2 0 none) fun v18 =>
    C.st 32 (Addr.mk b4 0 none) (.agg v18) <|
    C.ld .agg 32 (Addr.mk b4 0 none) fun z11 =>
    C.ret (.agg z11)
  )
theorem spec_l01Xor_eq (C : Comb) (x0 : Array Value) (x1 : Array Value) : fT C Tryz.prog { loop := [(2, [(5, (.int .i64))])], join := [], anyOrder := [4], pure := [] } n_spec_l01Xor [(.agg x0), (.agg x1)] = spec_l01Xor C x0 x1 := by kernel_rfl
theorem spec_l01Xor_calls {R : Value → World → Prop} {w : World} (x0 : Array Value) (x1 : Array Value) (h : (spec_l01Xor (real Tryz.prog R) x0 x1 : World → Prop) w) :
    Calls Tryz.prog n_spec_l01Xor [(.agg x0), (.agg x1)].toArray w fun e w' => ∃ v, e = .returned v ∧ R v w' := fT_sound mixed { loop := [(2, [(5, (.int .i64))])], join := [], anyOrder := [4], pure := [] } (by rw [spec_l01Xor_eq]; exact h)

/-- spec.l01End (126) -/
def spec_l01End (C : Comb) (x0 : Array Value) (x1 : Sl) (x2 : Int) : C.St :=
  C.new ty_arr8_uint32 (.agg x0) fun b3 =>
  C.new ty_impl_Key (.agg (Array.replicate 32 (.int .u8 0))) fun b6 =>
  C.call n_spec_l01Padded [(.slice x1.a x1.n x1.c), (.int .i64 x2)] [.slice] fun r13 =>
  C.loop (TL [(.int .i64)]) (embL [(.int .i64)]) [(.int .i64 0)] fun s4 ct4 => C.any fun _ =>
  cond (decide (s4 < (r13.n : Int))) (
    C.draw <|
    C.ld .agg 8 (Addr.mk b3 0 none) fun v20 =>
    C.call n_spec_l01Block [(.slice r13.a r13.n r13.c), (.int .i64 s4)] [.agg] fun r23 =>
    C.chk [⟨0, 8, (Addr.mk b3 0 none), .agg, v20⟩] <|
    C.call n_spec_l01Mix [(.agg v20), (.agg r23)] [.agg] fun r24 =>
    C.st 8 (Addr.mk b3 0 none) (.agg r24) <|
    ct4 [(.int .i64 (IntKind.wrap .i64 (s4 + 32)))]
  ) (
    C.new ty_impl_Key (.agg (Array.replicate 32 (.int .u8 0))) fun b9 =>
    C.st 32 (Addr.mk b9 0 none) (.agg (Array.replicate 32 (.int .u8 0))) <|
    C.loop (TL [(.int .i64)]) (embL [(.int .i64)]) [(.int .i64 0)] fun s9 ct9 => C.any fun _ =>
    cond (decide (s9 < 32)) (
      C.ix (some (Addr.mk b3 0 none)) 8 1 (IntKind.wrap .i64 (Int.tdiv s9 4)) fun p33 =>
      C.ld (.int .u32) 1 p33 fun v34 =>
      C.pur (eqB .shr ty_uint32 (.tmp 34) (.tmp 38) (.int .u32 v34) (.int .u64 (IntKind.wrap .u64 ((IntKind.wrap .i64 (8 * (Int.tmod s9 4))))))) (.int .u32) fun y39 =>
      C.ix (some (Addr.mk b9 0 none)) 32 1 s9 fun p41 =>
      C.st 1 p41 (.int .u8 (IntKind.wrap .u8 (y39))) <|
      ct9 [(.int .i64 (IntKind.wrap .i64 (s9 + 1)))]
    ) (
      C.ld .agg 32 (Addr.mk b9 0 none) fun v42 =>
      C.st 32 (Addr.mk b6 0 none) (.agg v42) <|
      C.ld .agg 32 (Addr.mk b6 0 none) fun z15 =>
      C.ret (.agg z15)
    )
  )
theorem spec_l01End_eq (C : Comb) (x0 : Array Value) (x1 : Sl) (x2 : Int) : fT C Tryz.prog { loop := [(3, [(8, (.int .i64))]), (8, [(10, (.int .i64))])], join := [], anyOrder := [5], pure := [] } n_spec_l01End [(.agg x0), (.slice x1.a x1.n x1.c), (.int .i64 x2)] = spec_l01End C x0 x1 x2 := by kernel_rfl
theorem spec_l01End_calls {R : Value → World → Prop} {w : World} (x0 : Array Value) (x1 : Sl) (x2 : Int) (h : (spec_l01End (real Tryz.prog R) x0 x1 x2 : World → Prop) w) :
    Calls Tryz.prog n_spec_l01End [(.agg x0), (.slice x1.a x1.n x1.c), (.int .i64 x2)].toArray w fun e w' => ∃ v, e = .returned v ∧ R v w' := fT_sound mixed { loop := [(3, [(8, (.int .i64))]), (8, [(10, (.int .i64))])], join := [], anyOrder := [5], pure := [] } (by rw [spec_l01End_eq]; exact h)

/-- spec.l01Start (127) -/
def spec_l01Start (C : Comb) (x0 : Int) : C.St :=
  C.new ty_arr8_uint32 (.agg (Array.replicate 8 (.int .u32 0))) fun b2 =>
  C.new ty_arr8_uint32 (.agg (Array.replicate 8 (.int .u32 0))) fun b3 =>
  C.st 8 (Addr.mk b3 0 none) (.agg (Array.replicate 8 (.int .u32 0))) <|
  C.loop (TL [(.int .i64)]) (embL [(.int .i64)]) [(.int .i64 0)] fun s3 ct3 => C.any fun _ =>
  cond (decide (s3 < 8)) (
    C.ix (some (Addr.mk b3 0 none)) 8 1 s3 fun p18 =>
    C.st 1 p18 (.int .u32 (IntKind.wrap .u32 ((IntKind.wrap .u32 (16777619 * (IntKind.wrap .u32 ((IntKind.wrap .i64 (s3 + 1)))))) + (IntKind.wrap .u32 (x0))))) <|
    ct3 [(.int .i64 (IntKind.wrap .i64 (s3 + 1)))]
  ) (
    C.ld .agg 8 (Addr.mk b3 0 none) fun v19 =>
    C.st 8 (Addr.mk b2 0 none) (.agg v19) <|
    C.ld .agg 8 (Addr.mk b2 0 none) fun z6 =>
    C.ret (.agg z6)
  )
theorem spec_l01Start_eq (C : Comb) (x0 : Int) : fT C Tryz.prog { loop := [(3, [(4, (.int .i64))])], join := [], anyOrder := [], pure := [] } n_spec_l01Start [(.int .u8 x0)] = spec_l01Start C x0 := by kernel_rfl
theorem spec_l01Start_calls {R : Value → World → Prop} {w : World} (x0 : Int) (h : (spec_l01Start (real Tryz.prog R) x0 : World → Prop) w) :
    Calls Tryz.prog n_spec_l01Start [(.int .u8 x0)].toArray w fun e w' => ∃ v, e = .returned v ∧ R v w' := fT_sound mixed { loop := [(3, [(4, (.int .i64))])], join := [], anyOrder := [], pure := [] } (by rw [spec_l01Start_eq]; exact h)

/-- slices.IndexFunc[[]impl.Blob,impl.Blob] (128) -/
def slices_IndexFunc_sl_impl_Blob_impl_Blob (C : Comb) (x0 : Sl) (x1 : Value) : C.St :=
  C.loop (TL [(.int .i64)]) (embL [(.int .i64)]) [(.int .i64 0)] fun s1 ct1 => C.any fun _ =>
  cond (decide (s1 < (x0.n : Int))) (
    C.ix x0.a x0.n 2 s1 fun p14 =>
    C.ld .agg 2 p14 fun v15 =>
    C.callV x1 [(.agg v15)] [.bool] fun r16 =>
    cond r16 (
      C.ret (.int .i64 s1)
    ) (
      ct1 [(.int .i64 (IntKind.wrap .i64 (s1 + 1)))]
    )
  ) (
    C.ret (.int .i64 (-1))
  )
theorem slices_IndexFunc_sl_impl_Blob_impl_Blob_eq (C : Comb) (x0 : Sl) (x1 : Value) : fT C Tryz.prog { loop := [(2, [(8, (.int .i64))])], join := [], anyOrder := [], pure := [] } n_slices_IndexFunc_sl_impl_Blob_impl_Blob [(.slice x0.a x0.n x0.c), x1] = slices_IndexFunc_sl_impl_Blob_impl_Blob C x0 x1 := by kernel_rfl
theorem slices_IndexFunc_sl_impl_Blob_impl_Blob_calls {R : Value → World → Prop} {w : World} (x0 : Sl) (x1 : Value) (h : (slices_IndexFunc_sl_impl_Blob_impl_Blob (real Tryz.prog R) x0 x1 : World → Prop) w) :
    Calls Tryz.prog n_slices_IndexFunc_sl_impl_Blob_impl_Blob [(.slice x0.a x0.n x0.c), x1].toArray w fun e w' => ∃ v, e = .returned v ∧ R v w' := fT_sound mixed { loop := [(2, [(8, (.int .i64))])], join := [], anyOrder := [], pure := [] } (by rw [slices_IndexFunc_sl_impl_Blob_impl_Blob_eq]; exact h)

/-- slices.Compare[[]byte,byte] (129) -/
def slices_Compare_sl_byte_byte (C : Comb) (x0 : Sl) (x1 : Sl) : C.St :=
  C.loop (TL [(.int .i64)]) (embL [(.int .i64)]) [(.int .i64 0)] fun s1 ct1 => C.any fun _ =>
  cond (decide (s1 < (x0.n : Int))) (
    C.ix x0.a x0.n 1 s1 fun p14 =>
    C.ld (.int .u8) 1 p14 fun v15 =>
    cond (decide (s1 ≥ (x1.n : Int))) (
      C.ret (.int .i64 1)
    ) (
      C.ix x1.a x1.n 1 s1 fun p22 =>
      C.ld (.int .u8) 1 p22 fun v23 =>
      C.call n_cmp_Compare_byte [(.int .u8 v15), (.int .u8 v23)] [(.int .i64)] fun r26 =>
      cond (r26 != 0) (
        C.ret (.int .i64 r26)
      ) (
        ct1 [(.int .i64 (IntKind.wrap .i64 (s1 + 1)))]
      )
    )
  ) (
    cond (decide ((x0.n : Int) < (x1.n : Int))) (
      C.ret (.int .i64 (-1))
    ) (
      C.ret (.int .i64 0)
    )
  )
theorem slices_Compare_sl_byte_byte_eq (C : Comb) (x0 : Sl) (x1 : Sl) : fT C Tryz.prog { loop := [(2, [(11, (.int .i64))])], join := [], anyOrder := [], pure := [] } n_slices_Compare_sl_byte_byte [(.slice x0.a x0.n x0.c), (.slice x1.a x1.n x1.c)] = slices_Compare_sl_byte_byte C x0 x1 := by kernel_rfl
theorem slices_Compare_sl_byte_byte_calls {R : Value → World → Prop} {w : World} (x0 : Sl) (x1 : Sl) (h : (slices_Compare_sl_byte_byte (real Tryz.prog R) x0 x1 : World → Prop) w) :
    Calls Tryz.prog n_slices_Compare_sl_byte_byte [(.slice x0.a x0.n x0.c), (.slice x1.a x1.n x1.c)].toArray w fun e w' => ∃ v, e = .returned v ∧ R v w' := fT_sound mixed { loop := [(2, [(11, (.int .i64))])], join := [], anyOrder := [], pure := [] } (by rw [slices_Compare_sl_byte_byte_eq]; exact h)

/-- slices.rotateRight[impl.Key] (131) -/
def slices_rotateRight_impl_Key (C : Comb) (x0 : Sl) (x1 : Int) : C.St :=
  C.call n_slices_rotateLeft_impl_Key [(.slice x0.a x0.n x0.c), (.int .i64 (IntKind.wrap .i64 ((x0.n : Int) - x1)))] [] fun r9 =>
  C.ret (.tuple #[])
theorem slices_rotateRight_impl_Key_eq (C : Comb) (x0 : Sl) (x1 : Int) : fT C Tryz.prog { loop := [], join := [], anyOrder := [], pure := [] } n_slices_rotateRight_impl_Key [(.slice x0.a x0.n x0.c), (.int .i64 x1)] = slices_rotateRight_impl_Key C x0 x1 := by kernel_rfl
theorem slices_rotateRight_impl_Key_calls {R : Value → World → Prop} {w : World} (x0 : Sl) (x1 : Int) (h : (slices_rotateRight_impl_Key (real Tryz.prog R) x0 x1 : World → Prop) w) :
    Calls Tryz.prog n_slices_rotateRight_impl_Key [(.slice x0.a x0.n x0.c), (.int .i64 x1)].toArray w fun e w' => ∃ v, e = .returned v ∧ R v w' := fT_sound mixed { loop := [], join := [], anyOrder := [], pure := [] } (by rw [slices_rotateRight_impl_Key_eq]; exact h)

/-- slices.rotateRight[impl.Blob] (133) -/
def slices_rotateRight_impl_Blob (C : Comb) (x0 : Sl) (x1 : Int) : C.St :=
  C.call n_slices_rotateLeft_impl_Blob [(.slice x0.a x0.n x0.c), (.int .i64 (IntKind.wrap .i64 ((x0.n : Int) - x1)))] [] fun r9 =>
  C.ret (.tuple #[])
theorem slices_rotateRight_impl_Blob_eq (C : Comb) (x0 : Sl) (x1 : Int) : fT C Tryz.prog { loop := [], join := [], anyOrder := [], pure := [] } n_slices_rotateRight_impl_Blob [(.slice x0.a x0.n x0.c), (.int .i64 x1)] = slices_rotateRight_impl_Blob C x0 x1 := by kernel_rfl
theorem slices_rotateRight_impl_Blob_calls {R : Value → World → Prop} {w : World} (x0 : Sl) (x1 : Int) (h : (slices_rotateRight_impl_Blob (real Tryz.prog R) x0 x1 : World → Prop) w) :
    Calls Tryz.prog n_slices_rotateRight_impl_Blob [(.slice x0.a x0.n x0.c), (.int .i64 x1)].toArray w fun e w' => ∃ v, e = .returned v ∧ R v w' := fT_sound mixed { loop := [], join := [], anyOrder := [], pure := [] } (by rw [slices_rotateRight_impl_Blob_eq]; exact h)

/-- slices.Clone[[]byte,byte] (134) -/
def slices_Clone_sl_byte_byte (C : Comb) (x0 : Sl) : C.St :=
  C.pur (eqB .eql ty_sl_uint8 (.tmp 3) (.const (.slice none 0 0)) (.slice x0.a x0.n x0.c) (.slice none 0 0)) .bool fun y4 =>
  cond y4 (
    C.ret (.slice none 0 0)
  ) (
    C.sem (Instr.buildSlice ty_sl_uint8 0 #[]) .slice fun y5 =>
    C.sem (Builtin.append_ #[ty_sl_uint8, ty_sl_uint8] ty_sl_uint8 #[(.slice y5.a y5.n y5.c), (.slice x0.a x0.n x0.c)]) .slice fun y7 =>
    C.ret (.slice y7.a y7.n y7.c)
  )
theorem slices_Clone_sl_byte_byte_eq (C : Comb) (x0 : Sl) : fT C Tryz.prog { loop := [], join := [], anyOrder := [], pure := [] } n_slices_Clone_sl_byte_byte [(.slice x0.a x0.n x0.c)] = slices_Clone_sl_byte_byte C x0 := by kernel_rfl
theorem slices_Clone_sl_byte_byte_calls {R : Value → World → Prop} {w : World} (x0 : Sl) (h : (slices_Clone_sl_byte_byte (real Tryz.prog R) x0 : World → Prop) w) :
    Calls Tryz.prog n_slices_Clone_sl_byte_byte [(.slice x0.a x0.n x0.c)].toArray w fun e w' => ∃ v, e = .returned v ∧ R v w' := fT_sound mixed { loop := [], join := [], anyOrder := [], pure := [] } (by rw [slices_Clone_sl_byte_byte_eq]; exact h)

/-- spec.l04Name (135) -/
def spec_l04Name (C : Comb) (x0 : ByteArray) : C.St :=
  C.call n_spec_l00In [(.int .i64 (x0.size : Int)), (.int .i64 1), (.int .i64 24)] [.bool] fun r5 =>
  C.ret (.bool r5)
theorem spec_l04Name_eq (C : Comb) (x0 : ByteArray) : fT C Tryz.prog { loop := [], join := [], anyOrder := [], pure := [] } n_spec_l04Name [(.string x0)] = spec_l04Name C x0 := by kernel_rfl
theorem spec_l04Name_calls {R : Value → World → Prop} {w : World} (x0 : ByteArray) (h : (spec_l04Name (real Tryz.prog R) x0 : World → Prop) w) :
    Calls Tryz.prog n_spec_l04Name [(.string x0)].toArray w fun e w' => ∃ v, e = .returned v ∧ R v w' := fT_sound mixed { loop := [], join := [], anyOrder := [], pure := [] } (by rw [spec_l04Name_eq]; exact h)

/-- impl.isName (136) -/
def impl_isName (C : Comb) (x0 : ByteArray) : C.St :=
  C.call n_impl_within [(.int .i64 (x0.size : Int)), (.int .i64 1), (.int .i64 24)] [.bool] fun r5 =>
  C.ret (.bool r5)
theorem impl_isName_eq (C : Comb) (x0 : ByteArray) : fT C Tryz.prog { loop := [], join := [], anyOrder := [], pure := [] } n_impl_isName [(.string x0)] = impl_isName C x0 := by kernel_rfl
theorem impl_isName_calls {R : Value → World → Prop} {w : World} (x0 : ByteArray) (h : (impl_isName (real Tryz.prog R) x0 : World → Prop) w) :
    Calls Tryz.prog n_impl_isName [(.string x0)].toArray w fun e w' => ∃ v, e = .returned v ∧ R v w' := fT_sound mixed { loop := [], join := [], anyOrder := [], pure := [] } (by rw [impl_isName_eq]; exact h)

/-- impl.blocks (137) -/
def impl_blocks (C : Comb) (x0 : Sl) : C.St :=
  C.sem (Instr.buildSlice ty_sl_arr32_uint8 0 #[]) .slice fun y5 =>
  C.loop (TL [.slice, .slice]) (embL [.slice, .slice]) [(.slice x0.a x0.n x0.c), (.slice y5.a y5.n y5.c)] fun s2 ct2 => C.any fun _ =>
  cond (decide ((s2.1.n : Int) ≥ 32)) (
    C.pur (Instr.arrayAt ty_arr32_uint8 (.slice s2.1.a s2.1.n s2.1.c)) .ptr fun y11 =>
    C.ld .agg 32 y11 fun v12 =>
    C.sem (Instr.buildSlice ty_sl_arr32_uint8 1 #[(0, (.agg v12))]) .slice fun y13 =>
    C.sem (Builtin.append_ #[ty_sl_arr32_uint8, ty_sl_arr32_uint8] ty_sl_arr32_uint8 #[(.slice s2.2.a s2.2.n s2.2.c), (.slice y13.a y13.n y13.c)]) .slice fun y14 =>
    C.sl s2.1.a s2.1.n s2.1.c 1 (some 32) none none fun y16 =>
    ct2 [(.slice y16.a y16.n y16.c), (.slice y14.a y14.n y14.c)]
  ) (
    C.ret (.tuple #[(.slice s2.2.a s2.2.n s2.2.c), (.slice s2.1.a s2.1.n s2.1.c)])
  )
theorem impl_blocks_eq (C : Comb) (x0 : Sl) : fT C Tryz.prog { loop := [(2, [(0, .slice), (4, .slice)])], join := [], anyOrder := [], pure := [] } n_impl_blocks [(.slice x0.a x0.n x0.c)] = impl_blocks C x0 := by kernel_rfl
theorem impl_blocks_calls {R : Value → World → Prop} {w : World} (x0 : Sl) (h : (impl_blocks (real Tryz.prog R) x0 : World → Prop) w) :
    Calls Tryz.prog n_impl_blocks [(.slice x0.a x0.n x0.c)].toArray w fun e w' => ∃ v, e = .returned v ∧ R v w' := fT_sound mixed { loop := [(2, [(0, .slice), (4, .slice)])], join := [], anyOrder := [], pure := [] } (by rw [impl_blocks_eq]; exact h)

/-- slices.Concat[[]byte,byte] (138) -/
def slices_Concat_sl_byte_byte (C : Comb) (x0 : Sl) : C.St :=
  C.loop (TL [(.int .i64), (.int .i64)]) (embL [(.int .i64), (.int .i64)]) [(.int .i64 0), (.int .i64 0)] fun s1 ct1 => C.any fun _ =>
  cond (decide (s1.2 < (x0.n : Int))) (
    C.ix x0.a x0.n 1 s1.2 fun p13 =>
    C.ld .slice 1 p13 fun v14 =>
    cond (decide ((IntKind.wrap .i64 (s1.1 + (v14.n : Int))) < 0)) (
      C.pur (Instr.makeInterface ty_string (.string (⟨#[108, 101, 110, 32, 111, 117, 116, 32, 111, 102, 32, 114, 97, 110, 103, 101]⟩ : ByteArray))) .val fun y21 =>
      C.fail
    ) (
      ct1 [(.int .i64 (IntKind.wrap .i64 (s1.1 + (v14.n : Int)))), (.int .i64 (IntKind.wrap .i64 (s1.2 + 1)))]
    )
  ) (
    C.call n_slices_Grow_sl_byte_byte [(.slice none 0 0), (.int .i64 s1.1)] [.slice] fun r24 =>
    C.loop (TL [.slice, (.int .i64)]) (embL [.slice, (.int .i64)]) [(.slice r24.a r24.n r24.c), (.int .i64 0)] fun s6 ct6 => C.any fun _ =>
    cond (decide (s6.2 < (x0.n : Int))) (
      C.ix x0.a x0.n 1 s6.2 fun p29 =>
      C.ld .slice 1 p29 fun v30 =>
      C.sem (Builtin.append_ #[ty_sl_uint8, ty_sl_uint8] ty_sl_uint8 #[(.slice s6.1.a s6.1.n s6.1.c), (.slice v30.a v30.n v30.c)]) .slice fun y33 =>
      ct6 [(.slice y33.a y33.n y33.c), (.int .i64 (IntKind.wrap .i64 (s6.2 + 1)))]
    ) (
      C.ret (.slice s6.1.a s6.1.n s6.1.c)
    )
  )
theorem slices_Concat_sl_byte_byte_eq (C : Comb) (x0 : Sl) : fT C Tryz.prog { loop := [(3, [(3, (.int .i64)), (11, (.int .i64))]), (11, [(6, .slice), (27, (.int .i64))])], join := [], anyOrder := [], pure := [] } n_slices_Concat_sl_byte_byte [(.slice x0.a x0.n x0.c)] = slices_Concat_sl_byte_byte C x0 := by kernel_rfl
theorem slices_Concat_sl_byte_byte_calls {R : Value → World → Prop} {w : World} (x0 : Sl) (h : (slices_Concat_sl_byte_byte (real Tryz.prog R) x0 : World → Prop) w) :
    Calls Tryz.prog n_slices_Concat_sl_byte_byte [(.slice x0.a x0.n x0.c)].toArray w fun e w' => ∃ v, e = .returned v ∧ R v w' := fT_sound mixed { loop := [(3, [(3, (.int .i64)), (11, (.int .i64))]), (11, [(6, .slice), (27, (.int .i64))])], join := [], anyOrder := [], pure := [] } (by rw [slices_Concat_sl_byte_byte_eq]; exact h)

/-- impl.padding (139) -/
def impl_padding (C : Comb) (x0 : Int) : C.St :=
  C.sem (Instr.buildSlice ty_sl_uint8 1 #[(0, (.int .u8 128))]) .slice fun y4 =>
  C.loop (TL [.slice]) (embL [.slice]) [(.slice y4.a y4.n y4.c)] fun s2 ct2 => C.any fun _ =>
  C.call n_impl_size_byte [(.slice s2.a s2.n s2.c)] [(.int .i64)] fun r7 =>
  cond ((Int.tmod (IntKind.wrap .i64 (x0 + r7)) 32) != 24) (
    C.sem (Instr.buildSlice ty_sl_uint8 1 #[(0, (.int .u8 0))]) .slice fun y12 =>
    C.sem (Builtin.append_ #[ty_sl_uint8, ty_sl_uint8] ty_sl_uint8 #[(.slice s2.a s2.n s2.c), (.slice y12.a y12.n y12.c)]) .slice fun y13 =>
    ct2 [(.slice y13.a y13.n y13.c)]
  ) (
    C.call n_impl_appendLittle [(.slice s2.a s2.n s2.c), (.int .u64 (IntKind.wrap .u64 (x0))), (.int .i64 8)] [.slice] fun r17 =>
    C.ret (.slice r17.a r17.n r17.c)
  )
theorem impl_padding_eq (C : Comb) (x0 : Int) : fT C Tryz.prog { loop := [(2, [(3, .slice)])], join := [], anyOrder := [], pure := [] } n_impl_padding [(.int .i64 x0)] = impl_padding C x0 := by kernel_rfl
theorem impl_padding_calls {R : Value → World → Prop} {w : World} (x0 : Int) (h : (impl_padding (real Tryz.prog R) x0 : World → Prop) w) :
    Calls Tryz.prog n_impl_padding [(.int .i64 x0)].toArray w fun e w' => ∃ v, e = .returned v ∧ R v w' := fT_sound mixed { loop := [(2, [(3, .slice)])], join := [], anyOrder := [], pure := [] } (by rw [impl_padding_eq]; exact h)

/-- impl.size[byte] (140) -/
def impl_size_byte (C : Comb) (x0 : Sl) : C.St :=
  C.ret (.int .i64 (x0.n : Int))
theorem impl_size_byte_eq (C : Comb) (x0 : Sl) : fT C Tryz.prog { loop := [], join := [], anyOrder := [], pure := [] } n_impl_size_byte [(.slice x0.a x0.n x0.c)] = impl_size_byte C x0 := by kernel_rfl
theorem impl_size_byte_calls {R : Value → World → Prop} {w : World} (x0 : Sl) (h : (impl_size_byte (real Tryz.prog R) x0 : World → Prop) w) :
    Calls Tryz.prog n_impl_size_byte [(.slice x0.a x0.n x0.c)].toArray w fun e w' => ∃ v, e = .returned v ∧ R v w' := fT_sound mixed { loop := [], join := [], anyOrder := [], pure := [] } (by rw [impl_size_byte_eq]; exact h)

/-- impl.keyOf (141) -/
def impl_keyOf (C : Comb) (x0 : Array Value) : C.St :=
  C.new ty_arr8_uint32 (.agg x0) fun b1 =>
  C.new ty_impl_Key (.agg (Array.replicate 32 (.int .u8 0))) fun b2 =>
  C.new ty_impl_Key (.agg (Array.replicate 32 (.int .u8 0))) fun b3 =>
  C.st 32 (Addr.mk b3 0 none) (.agg (Array.replicate 32 (.int .u8 0))) <|
  C.ld .agg 8 (Addr.mk b1 0 none) fun v7 =>
  C.loop (TL [(.int .i64)]) (embL [(.int .i64)]) [(.int .i64 0)] fun s5 ct5 => C.any fun _ =>
  cond (decide (s5 < 8)) (
    C.ixV (.int .u32) v7 8 1 s5 fun y11 =>
    C.draw <|
    C.sl (some (Addr.mk b3 0 none)) 32 32 1 (some (IntKind.wrap .i64 (4 * s5))) none none fun y14 =>
    C.call n_impl_appendLittle [(.slice none 0 0), (.int .u64 (IntKind.wrap .u64 (y11))), (.int .i64 4)] [.slice] fun r17 =>
    C.sem (Builtin.copy_ #[ty_sl_uint8, ty_sl_uint8] ty_int #[(.slice y14.a y14.n y14.c), (.slice r17.a r17.n r17.c)]) (.int .i64) fun y18 =>
    ct5 [(.int .i64 (IntKind.wrap .i64 (s5 + 1)))]
  ) (
    C.ld .agg 32 (Addr.mk b3 0 none) fun v20 =>
    C.st 32 (Addr.mk b2 0 none) (.agg v20) <|
    C.ld .agg 32 (Addr.mk b2 0 none) fun z11 =>
    C.ret (.agg z11)
  )
theorem impl_keyOf_eq (C : Comb) (x0 : Array Value) : fT C Tryz.prog { loop := [(3, [(8, (.int .i64))])], join := [], anyOrder := [5], pure := [] } n_impl_keyOf [(.agg x0)] = impl_keyOf C x0 := by kernel_rfl
theorem impl_keyOf_calls {R : Value → World → Prop} {w : World} (x0 : Array Value) (h : (impl_keyOf (real Tryz.prog R) x0 : World → Prop) w) :
    Calls Tryz.prog n_impl_keyOf [(.agg x0)].toArray w fun e w' => ∃ v, e = .returned v ∧ R v w' := fT_sound mixed { loop := [(3, [(8, (.int .i64))])], join := [], anyOrder := [5], pure := [] } (by rw [impl_keyOf_eq]; exact h)

/-- impl.mixed (142) -/
def impl_mixed (C : Comb) (x0 : Array Value) (x1 : Sl) : C.St :=
  C.new ty_arr8_uint32 (.agg x0) fun b2 =>
  C.new ty_arr8_uint32 (.agg (Array.replicate 8 (.int .u32 0))) fun b4 =>
  C.loop (TL [(.int .i64)]) (embL [(.int .i64)]) [(.int .i64 0)] fun s3 ct3 => C.any fun _ =>
  cond (decide (s3 < (x1.n : Int))) (
    C.ix x1.a x1.n 32 s3 fun p11 =>
    C.ld .agg 32 p11 fun v12 =>
    C.new ty_arr32_uint8 (.agg (Array.replicate 32 (.int .u8 0))) fun b6 =>
    C.st 32 (Addr.mk b6 0 none) (.agg v12) <|
    C.ld .agg 8 (Addr.mk b2 0 none) fun v13 =>
    C.ld .agg 32 (Addr.mk b6 0 none) fun v14 =>
    C.call n_impl_MixBlock [(.agg v13), (.agg v14)] [.agg] fun r15 =>
    C.st 8 (Addr.mk b2 0 none) (.agg r15) <|
    ct3 [(.int .i64 (IntKind.wrap .i64 (s3 + 1)))]
  ) (
    C.ld .agg 8 (Addr.mk b2 0 none) fun v17 =>
    C.st 8 (Addr.mk b4 0 none) (.agg v17) <|
    C.ld .agg 8 (Addr.mk b4 0 none) fun z11 =>
    C.ret (.agg z11)
  )
theorem impl_mixed_eq (C : Comb) (x0 : Array Value) (x1 : Sl) : fT C Tryz.prog { loop := [(2, [(9, (.int .i64))])], join := [], anyOrder := [], pure := [] } n_impl_mixed [(.agg x0), (.slice x1.a x1.n x1.c)] = impl_mixed C x0 x1 := by kernel_rfl
theorem impl_mixed_calls {R : Value → World → Prop} {w : World} (x0 : Array Value) (x1 : Sl) (h : (impl_mixed (real Tryz.prog R) x0 x1 : World → Prop) w) :
    Calls Tryz.prog n_impl_mixed [(.agg x0), (.slice x1.a x1.n x1.c)].toArray w fun e w' => ∃ v, e = .returned v ∧ R v w' := fT_sound mixed { loop := [(2, [(9, (.int .i64))])], join := [], anyOrder := [], pure := [] } (by rw [impl_mixed_eq]; exact h)

/-- impl.StartState (143) -/
def impl_StartState (C : Comb) (x0 : Int) : C.St :=
  C.new ty_arr8_uint32 (.agg (Array.replicate 8 (.int .u32 0))) fun b2 =>
  C.new ty_arr8_uint32 (.agg (Array.replicate 8 (.int .u32 0))) fun b3 =>
  C.st 8 (Addr.mk b3 0 none) (.agg (Array.replicate 8 (.int .u32 0))) <|
  C.loop (TL [(.int .i64)]) (embL [(.int .i64)]) [(.int .i64 0)] fun s3 ct3 => C.any fun _ =>
  cond (decide (s3 < 8)) (
    C.ix (some (Addr.mk b3 0 none)) 8 1 s3 fun p17 =>
    C.st 1 p17 (.int .u32 (IntKind.wrap .u32 ((IntKind.wrap .u32 (16777619 * (IntKind.wrap .u32 ((IntKind.wrap .i64 (s3 + 1)))))) + (IntKind.wrap .u32 (x0))))) <|
    ct3 [(.int .i64 (IntKind.wrap .i64 (s3 + 1)))]
  ) (
    C.ld .agg 8 (Addr.mk b3 0 none) fun v19 =>
    C.st 8 (Addr.mk b2 0 none) (.agg v19) <|
    C.ld .agg 8 (Addr.mk b2 0 none) fun z6 =>
    C.ret (.agg z6)
  )
theorem impl_StartState_eq (C : Comb) (x0 : Int) : fT C Tryz.prog { loop := [(3, [(6, (.int .i64))])], join := [], anyOrder := [], pure := [] } n_impl_StartState [(.int .u8 x0)] = impl_StartState C x0 := by kernel_rfl
theorem impl_StartState_calls {R : Value → World → Prop} {w : World} (x0 : Int) (h : (impl_StartState (real Tryz.prog R) x0 : World → Prop) w) :
    Calls Tryz.prog n_impl_StartState [(.int .u8 x0)].toArray w fun e w' => ∃ v, e = .returned v ∧ R v w' := fT_sound mixed { loop := [(3, [(6, (.int .i64))])], join := [], anyOrder := [], pure := [] } (by rw [impl_StartState_eq]; exact h)

/-- spec.l01Padded (146) -/
def spec_l01Padded (C : Comb) (x0 : Sl) (x1 : Int) : C.St :=
  C.sem (Instr.buildSlice ty_sl_uint8 0 #[]) .slice fun y7 =>
  C.sem (Builtin.append_ #[ty_sl_uint8, ty_sl_uint8] ty_sl_uint8 #[(.slice y7.a y7.n y7.c), (.slice x0.a x0.n x0.c)]) .slice fun y9 =>
  C.sem (Instr.buildSlice ty_sl_uint8 1 #[(0, (.int .u8 128))]) .slice fun y10 =>
  C.sem (Builtin.append_ #[ty_sl_uint8, ty_sl_uint8] ty_sl_uint8 #[(.slice y9.a y9.n y9.c), (.slice y10.a y10.n y10.c)]) .slice fun y11 =>
  C.loop (TL [.slice]) (embL [.slice]) [(.slice y11.a y11.n y11.c)] fun s5 ct5 => C.any fun _ =>
  cond ((Int.tmod (s5.n : Int) 32) != 24) (
    C.sem (Instr.buildSlice ty_sl_uint8 1 #[(0, (.int .u8 0))]) .slice fun y17 =>
    C.sem (Builtin.append_ #[ty_sl_uint8, ty_sl_uint8] ty_sl_uint8 #[(.slice s5.a s5.n s5.c), (.slice y17.a y17.n y17.c)]) .slice fun y18 =>
    ct5 [(.slice y18.a y18.n y18.c)]
  ) (
    C.loop (TL [(.int .i64), .slice, (.int .i64)]) (embL [(.int .i64), .slice, (.int .i64)]) [(.int .i64 x1), (.slice s5.a s5.n s5.c), (.int .i64 0)] fun s8 ct8 => C.any fun _ =>
    cond (decide (s8.2.2 < 8)) (
      C.sem (Instr.buildSlice ty_sl_uint8 1 #[(0, (.int .u8 (IntKind.wrap .u8 ((Int.tmod s8.1 256)))))]) .slice fun y27 =>
      C.sem (Builtin.append_ #[ty_sl_uint8, ty_sl_uint8] ty_sl_uint8 #[(.slice s8.2.1.a s8.2.1.n s8.2.1.c), (.slice y27.a y27.n y27.c)]) .slice fun y28 =>
      ct8 [(.int .i64 (IntKind.wrap .i64 (Int.tdiv s8.1 256))), (.slice y28.a y28.n y28.c), (.int .i64 (IntKind.wrap .i64 (s8.2.2 + 1)))]
    ) (
      C.ret (.slice s8.2.1.a s8.2.1.n s8.2.1.c)
    )
  )
theorem spec_l01Padded_eq (C : Comb) (x0 : Sl) (x1 : Int) : fT C Tryz.prog { loop := [(2, [(5, .slice)]), (5, [(1, (.int .i64)), (5, .slice), (6, (.int .i64))])], join := [], anyOrder := [], pure := [] } n_spec_l01Padded [(.slice x0.a x0.n x0.c), (.int .i64 x1)] = spec_l01Padded C x0 x1 := by kernel_rfl
theorem spec_l01Padded_calls {R : Value → World → Prop} {w : World} (x0 : Sl) (x1 : Int) (h : (spec_l01Padded (real Tryz.prog R) x0 x1 : World → Prop) w) :
    Calls Tryz.prog n_spec_l01Padded [(.slice x0.a x0.n x0.c), (.int .i64 x1)].toArray w fun e w' => ∃ v, e = .returned v ∧ R v w' := fT_sound mixed { loop := [(2, [(5, .slice)]), (5, [(1, (.int .i64)), (5, .slice), (6, (.int .i64))])], join := [], anyOrder := [], pure := [] } (by rw [spec_l01Padded_eq]; exact h)

/-- spec.l01Mix (147) -/
def spec_l01Mix (C : Comb) (x0 : Array Value) (x1 : Array Value) : C.St :=
  C.new ty_arr8_uint32 (.agg x0) fun b2 =>
  C.new ty_arr32_uint8 (.agg x1) fun b3 =>
  C.new ty_arr8_uint32 (.agg (Array.replicate 8 (.int .u32 0))) fun b4 =>
  C.new ty_arr8_uint32 (.agg (Array.replicate 8 (.int .u32 0))) fun b5 =>
  C.st 8 (Addr.mk b5 0 none) (.agg (Array.replicate 8 (.int .u32 0))) <|
  C.loop (TL [(.int .i64)]) (embL [(.int .i64)]) [(.int .i64 0)] fun s5 ct5 => C.any fun _ =>
  cond (decide (s5 < 8)) (
    C.loop (TL [(.int .i64)]) (embL [(.int .i64)]) [(.int .i64 3)] fun s6 ct6 => C.any fun _ =>
    cond (decide (s6 ≥ 0)) (
      C.draw <|
      C.ix (some (Addr.mk b5 0 none)) 8 1 s5 fun p25 =>
      C.ld (.int .u32) 1 p25 fun v26 =>
      C.ix (some (Addr.mk b3 0 none)) 32 1 (IntKind.wrap .i64 ((IntKind.wrap .i64 (4 * s5)) + s6)) fun p32 =>
      C.ld (.int .u8) 1 p32 fun v33 =>
      C.ix (some (Addr.mk b5 0 none)) 8 1 s5 fun p36 =>
      C.st 1 p36 (.int .u32 (bitsI .or .u32 (IntKind.wrap .u32 (v26 * 2 ^ 8)) (IntKind.wrap .u32 (v33)))) <|
      ct6 [(.int .i64 (IntKind.wrap .i64 (s6 - 1)))]
    ) (
      ct5 [(.int .i64 (IntKind.wrap .i64 (s5 + 1)))]
    )
  ) (
    C.ld .agg 8 (Addr.mk b2 0 none) fun v37 =>
    C.new ty_arr8_uint32 (.agg (Array.replicate 8 (.int .u32 0))) fun b8 =>
    C.st 8 (Addr.mk b8 0 none) (.agg v37) <|
    C.loop (TL [(.int .i64)]) (embL [(.int .i64)]) [(.int .i64 0)] fun s14 ct14 => C.any fun _ =>
    cond (decide (s14 < 12)) (
      C.loop (TL [(.int .i64)]) (embL [(.int .i64)]) [(.int .i64 0)] fun s15 ct15 => C.any fun _ =>
      cond (decide (s15 < 8)) (
        C.draw <|
        C.ix (some (Addr.mk b8 0 none)) 8 1 s15 fun p47 =>
        C.ld (.int .u32) 1 p47 fun v48 =>
        C.ix (some (Addr.mk b5 0 none)) 8 1 (Int.tmod (IntKind.wrap .i64 (s15 + (IntKind.wrap .i64 (3 * s14)))) 8) fun p54 =>
        C.ld (.int .u32) 1 p54 fun v55 =>
        C.draw <|
        C.callQ n_spec_l01Turn [(.int .u32 (IntKind.wrap .u32 ((IntKind.wrap .u32 (v48 + v55)) + (IntKind.wrap .u32 (2654435769 * (IntKind.wrap .u32 ((IntKind.wrap .i64 ((IntKind.wrap .i64 ((IntKind.wrap .i64 (8 * s14)) + s15)) + 1))))))))), (.int .u64 7)] [(.int .u32)] fun r66 =>
        C.ix (some (Addr.mk b8 0 none)) 8 1 (Int.tmod (IntKind.wrap .i64 (s15 + 1)) 8) fun p70 =>
        C.ld (.int .u32) 1 p70 fun v71 =>
        C.ix (some (Addr.mk b8 0 none)) 8 1 (Int.tmod (IntKind.wrap .i64 (s15 + 5)) 8) fun p78 =>
        C.ld (.int .u32) 1 p78 fun v79 =>
        C.call n_spec_l01Turn [(.int .u32 v79), (.int .u64 13)] [(.int .u32)] fun r80 =>
        C.ix (some (Addr.mk b8 0 none)) 8 1 s15 fun p82 =>
        C.st 1 p82 (.int .u32 (IntKind.wrap .u32 ((bitsI .xor .u32 r66 v71) + r80))) <|
        ct15 [(.int .i64 (IntKind.wrap .i64 (s15 + 1)))]
      ) (
        ct14 [(.int .i64 (IntKind.wrap .i64 (s14 + 1)))]
      )
    ) (
      C.loop (TL [(.int .i64)]) (embL [(.int .i64)]) [(.int .i64 0)] fun s27 ct27 => C.any fun _ =>
      cond (decide (s27 < 8)) (
        C.draw <|
        C.ix (some (Addr.mk b8 0 none)) 8 1 s27 fun p88 =>
        C.ld (.int .u32) 1 p88 fun v89 =>
        C.ix (some (Addr.mk b2 0 none)) 8 1 s27 fun p91 =>
        C.ld (.int .u32) 1 p91 fun v92 =>
        C.ix (some (Addr.mk b8 0 none)) 8 1 s27 fun p94 =>
        C.st 1 p94 (.int .u32 (bitsI .xor .u32 v89 v92)) <|
        ct27 [(.int .i64 (IntKind.wrap .i64 (s27 + 1)))]
      ) (
        C.ld .agg 8 (Addr.mk b8 0 none) fun v95 =>
        C.st 8 (Addr.mk b4 0 none) (.agg v95) <|
        C.ld .agg 8 (Addr.mk b4 0 none) fun z34 =>
        C.ret (.agg z34)
      )
    )
  )
theorem spec_l01Mix_eq (C : Comb) (x0 : Array Value) (x1 : Array Value) : fT C Tryz.prog { loop := [(3, [(6, (.int .i64))]), (6, [(7, (.int .i64))]), (11, [(9, (.int .i64))]), (14, [(10, (.int .i64))]), (20, [(13, (.int .i64))])], join := [], anyOrder := [8, 22], pure := [] } n_spec_l01Mix [(.agg x0), (.agg x1)] = spec_l01Mix C x0 x1 := by kernel_rfl
theorem spec_l01Mix_calls {R : Value → World → Prop} {w : World} (x0 : Array Value) (x1 : Array Value) (h : (spec_l01Mix (real Tryz.prog R) x0 x1 : World → Prop) w) :
    Calls Tryz.prog n_spec_l01Mix [(.agg x0), (.agg x1)].toArray w fun e w' => ∃ v, e = .returned v ∧ R v w' := fT_sound mixed { loop := [(3, [(6, (.int .i64))]), (6, [(7, (.int .i64))]), (11, [(9, (.int .i64))]), (14, [(10, (.int .i64))]), (20, [(13, (.int .i64))])], join := [], anyOrder := [8, 22], pure := [] } (by rw [spec_l01Mix_eq]; exact h)

/-- spec.l01Block (148) -/
def spec_l01Block (C : Comb) (x0 : Sl) (x1 : Int) : C.St :=
  C.new ty_arr32_uint8 (.agg (Array.replicate 32 (.int .u8 0))) fun b4 =>
  C.new ty_arr32_uint8 (.agg (Array.replicate 32 (.int .u8 0))) fun b5 =>
  C.st 32 (Addr.mk b5 0 none) (.agg (Array.replicate 32 (.int .u8 0))) <|
  C.loop (TL [(.int .i64)]) (embL [(.int .i64)]) [(.int .i64 0)] fun s3 ct3 => C.any fun _ =>
  cond (decide (s3 < 32)) (
    C.ix x0.a x0.n 1 (IntKind.wrap .i64 (x1 + s3)) fun p17 =>
    C.ld (.int .u8) 1 p17 fun v18 =>
    C.ix (some (Addr.mk b5 0 none)) 32 1 s3 fun p19 =>
    C.st 1 p19 (.int .u8 v18) <|
    ct3 [(.int .i64 (IntKind.wrap .i64 (s3 + 1)))]
  ) (
    C.ld .agg 32 (Addr.mk b5 0 none) fun v20 =>
    C.st 32 (Addr.mk b4 0 none) (.agg v20) <|
    C.ld .agg 32 (Addr.mk b4 0 none) fun z8 =>
    C.ret (.agg z8)
  )
theorem spec_l01Block_eq (C : Comb) (x0 : Sl) (x1 : Int) : fT C Tryz.prog { loop := [(3, [(6, (.int .i64))])], join := [], anyOrder := [], pure := [] } n_spec_l01Block [(.slice x0.a x0.n x0.c), (.int .i64 x1)] = spec_l01Block C x0 x1 := by kernel_rfl
theorem spec_l01Block_calls {R : Value → World → Prop} {w : World} (x0 : Sl) (x1 : Int) (h : (spec_l01Block (real Tryz.prog R) x0 x1 : World → Prop) w) :
    Calls Tryz.prog n_spec_l01Block [(.slice x0.a x0.n x0.c), (.int .i64 x1)].toArray w fun e w' => ∃ v, e = .returned v ∧ R v w' := fT_sound mixed { loop := [(3, [(6, (.int .i64))])], join := [], anyOrder := [], pure := [] } (by rw [spec_l01Block_eq]; exact h)

/-- cmp.Compare[byte] (149) -/
def cmp_Compare_byte (C : Comb) (x0 : Int) (x1 : Int) : C.St :=
  C.call n_cmp_isNaN_byte [(.int .u8 x0)] [.bool] fun r8 =>
  C.call n_cmp_isNaN_byte [(.int .u8 x1)] [.bool] fun r10 =>
  cond r8 (
    cond r10 (
      C.ret (.int .i64 0)
    ) (
      C.ret (.int .i64 (-1))
    )
  ) (
    cond r10 (
      C.ret (.int .i64 1)
    ) (
      cond (decide (x0 < x1)) (
        C.ret (.int .i64 (-1))
      ) (
        cond (decide (x0 > x1)) (
          C.ret (.int .i64 1)
        ) (
          C.ret (.int .i64 0)
        )
      )
    )
  )
theorem cmp_Compare_byte_eq (C : Comb) (x0 : Int) (x1 : Int) : fT C Tryz.prog { loop := [], join := [], anyOrder := [], pure := [] } n_cmp_Compare_byte [(.int .u8 x0), (.int .u8 x1)] = cmp_Compare_byte C x0 x1 := by kernel_rfl
theorem cmp_Compare_byte_calls {R : Value → World → Prop} {w : World} (x0 : Int) (x1 : Int) (h : (cmp_Compare_byte (real Tryz.prog R) x0 x1 : World → Prop) w) :
    Calls Tryz.prog n_cmp_Compare_byte [(.int .u8 x0), (.int .u8 x1)].toArray w fun e w' => ∃ v, e = .returned v ∧ R v w' := fT_sound mixed { loop := [], join := [], anyOrder := [], pure := [] } (by rw [cmp_Compare_byte_eq]; exact h)

/-- slices.rotateLeft[impl.Key] (150) -/
def slices_rotateLeft_impl_Key (C : Comb) (x0 : Sl) (x1 : Int) : C.St :=
  C.sl x0.a x0.n x0.c 32 none (some x1) none fun y6 =>
  C.call n_slices_Reverse_sl_impl_Key_impl_Key [(.slice y6.a y6.n y6.c)] [] fun r7 =>
  C.sl x0.a x0.n x0.c 32 (some x1) none none fun y10 =>
  C.call n_slices_Reverse_sl_impl_Key_impl_Key [(.slice y10.a y10.n y10.c)] [] fun r11 =>
  C.call n_slices_Reverse_sl_impl_Key_impl_Key [(.slice x0.a x0.n x0.c)] [] fun r13 =>
  C.ret (.tuple #[])
theorem slices_rotateLeft_impl_Key_eq (C : Comb) (x0 : Sl) (x1 : Int) : fT C Tryz.prog { loop := [], join := [], anyOrder := [], pure := [] } n_slices_rotateLeft_impl_Key [(.slice x0.a x0.n x0.c), (.int .i64 x1)] = slices_rotateLeft_impl_Key C x0 x1 := by kernel_rfl
theorem slices_rotateLeft_impl_Key_calls {R : Value → World → Prop} {w : World} (x0 : Sl) (x1 : Int) (h : (slices_rotateLeft_impl_Key (real Tryz.prog R) x0 x1 : World → Prop) w) :
    Calls Tryz.prog n_slices_rotateLeft_impl_Key [(.slice x0.a x0.n x0.c), (.int .i64 x1)].toArray w fun e w' => ∃ v, e = .returned v ∧ R v w' := fT_sound mixed { loop := [], join := [], anyOrder := [], pure := [] } (by rw [slices_rotateLeft_impl_Key_eq]; exact h)

/-- slices.rotateLeft[impl.Blob] (151) -/
def slices_rotateLeft_impl_Blob (C : Comb) (x0 : Sl) (x1 : Int) : C.St :=
  C.sl x0.a x0.n x0.c 2 none (some x1) none fun y6 =>
  C.call n_slices_Reverse_sl_impl_Blob_impl_Blob [(.slice y6.a y6.n y6.c)] [] fun r7 =>
  C.sl x0.a x0.n x0.c 2 (some x1) none none fun y10 =>
  C.call n_slices_Reverse_sl_impl_Blob_impl_Blob [(.slice y10.a y10.n y10.c)] [] fun r11 =>
  C.call n_slices_Reverse_sl_impl_Blob_impl_Blob [(.slice x0.a x0.n x0.c)] [] fun r13 =>
  C.ret (.tuple #[])
theorem slices_rotateLeft_impl_Blob_eq (C : Comb) (x0 : Sl) (x1 : Int) : fT C Tryz.prog { loop := [], join := [], anyOrder := [], pure := [] } n_slices_rotateLeft_impl_Blob [(.slice x0.a x0.n x0.c), (.int .i64 x1)] = slices_rotateLeft_impl_Blob C x0 x1 := by kernel_rfl
theorem slices_rotateLeft_impl_Blob_calls {R : Value → World → Prop} {w : World} (x0 : Sl) (x1 : Int) (h : (slices_rotateLeft_impl_Blob (real Tryz.prog R) x0 x1 : World → Prop) w) :
    Calls Tryz.prog n_slices_rotateLeft_impl_Blob [(.slice x0.a x0.n x0.c), (.int .i64 x1)].toArray w fun e w' => ∃ v, e = .returned v ∧ R v w' := fT_sound mixed { loop := [], join := [], anyOrder := [], pure := [] } (by rw [slices_rotateLeft_impl_Blob_eq]; exact h)

/-- spec.l00In (152) -/
def spec_l00In (C : Comb) (x0 : Int) (x1 : Int) (x2 : Int) : C.St :=
  cond (decide (x0 ≥ x1)) (
    C.ret (.bool (decide (x0 ≤ x2)))
  ) (
    C.ret (.bool false)
  )
theorem spec_l00In_eq (C : Comb) (x0 : Int) (x1 : Int) (x2 : Int) : fT C Tryz.prog { loop := [], join := [], anyOrder := [], pure := [] } n_spec_l00In [(.int .i64 x0), (.int .i64 x1), (.int .i64 x2)] = spec_l00In C x0 x1 x2 := by kernel_rfl
theorem spec_l00In_calls {R : Value → World → Prop} {w : World} (x0 : Int) (x1 : Int) (x2 : Int) (h : (spec_l00In (real Tryz.prog R) x0 x1 x2 : World → Prop) w) :
    Calls Tryz.prog n_spec_l00In [(.int .i64 x0), (.int .i64 x1), (.int .i64 x2)].toArray w fun e w' => ∃ v, e = .returned v ∧ R v w' := fT_sound mixed { loop := [], join := [], anyOrder := [], pure := [] } (by rw [spec_l00In_eq]; exact h)

/-- impl.within (153) -/
def impl_within (C : Comb) (x0 : Int) (x1 : Int) (x2 : Int) : C.St :=
  cond (decide (x0 ≥ x1)) (
    C.ret (.bool (decide (x0 ≤ x2)))
  ) (
    C.ret (.bool false)
  )
theorem impl_within_eq (C : Comb) (x0 : Int) (x1 : Int) (x2 : Int) : fT C Tryz.prog { loop := [], join := [], anyOrder := [], pure := [] } n_impl_within [(.int .i64 x0), (.int .i64 x1), (.int .i64 x2)] = impl_within C x0 x1 x2 := by kernel_rfl
theorem impl_within_calls {R : Value → World → Prop} {w : World} (x0 : Int) (x1 : Int) (x2 : Int) (h : (impl_within (real Tryz.prog R) x0 x1 x2 : World → Prop) w) :
    Calls Tryz.prog n_impl_within [(.int .i64 x0), (.int .i64 x1), (.int .i64 x2)].toArray w fun e w' => ∃ v, e = .returned v ∧ R v w' := fT_sound mixed { loop := [], join := [], anyOrder := [], pure := [] } (by rw [impl_within_eq]; exact h)

/-- slices.Grow[[]byte,byte] (154) -/
def slices_Grow_sl_byte_byte (C : Comb) (x0 : Sl) (x1 : Int) : C.St :=
  C.join (TL []) (embL []) (fun s2 => C.any fun _ =>
      cond (decide ((IntKind.wrap .i64 (x1 - (IntKind.wrap .i64 ((x0.c : Int) - (x0.n : Int))))) > 0)) (
        C.sl x0.a x0.n x0.c 1 none (some (x0.c : Int)) none fun y20 =>
        C.sem (Builtin.append_ #[ty_sl_uint8, ty_int] ty_sl_uint8 #[(.slice y20.a y20.n y20.c), (.int .i64 (IntKind.wrap .i64 (x1 - (IntKind.wrap .i64 ((x0.c : Int) - (x0.n : Int))))))]) .slice fun y22 =>
        C.sl y22.a y22.n y22.c 1 none (some (x0.n : Int)) none fun y25 =>
        C.ret (.slice y25.a y25.n y25.c)
      ) (
        C.ret (.slice x0.a x0.n x0.c)
      )
    ) fun jt =>
  cond (decide (x1 < 0)) (
    C.pur (Instr.makeInterface ty_string (.string (⟨#[99, 97, 110, 110, 111, 116, 32, 98, 101, 32, 110, 101, 103, 97, 116, 105, 118, 101]⟩ : ByteArray))) .val fun y7 =>
    C.fail
  ) (
    jt []
  )
theorem slices_Grow_sl_byte_byte_eq (C : Comb) (x0 : Sl) (x1 : Int) : fT C Tryz.prog { loop := [], join := [(18, [])], anyOrder := [], pure := [] } n_slices_Grow_sl_byte_byte [(.slice x0.a x0.n x0.c), (.int .i64 x1)] = slices_Grow_sl_byte_byte C x0 x1 := by kernel_rfl
theorem slices_Grow_sl_byte_byte_calls {R : Value → World → Prop} {w : World} (x0 : Sl) (x1 : Int) (h : (slices_Grow_sl_byte_byte (real Tryz.prog R) x0 x1 : World → Prop) w) :
    Calls Tryz.prog n_slices_Grow_sl_byte_byte [(.slice x0.a x0.n x0.c), (.int .i64 x1)].toArray w fun e w' => ∃ v, e = .returned v ∧ R v w' := fT_sound mixed { loop := [], join := [(18, [])], anyOrder := [], pure := [] } (by rw [slices_Grow_sl_byte_byte_eq]; exact h)

/-- impl.appendLittle (155) -/
def impl_appendLittle (C : Comb) (x0 : Sl) (x1 : Int) (x2 : Int) : C.St :=
  C.loop (TL [.slice, (.int .i64)]) (embL [.slice, (.int .i64)]) [(.slice x0.a x0.n x0.c), (.int .i64 0)] fun s1 ct1 => C.any fun _ =>
  cond (decide (s1.2 < x2)) (
    C.pur (eqB .shr ty_uint64 (.tmp 13) (.tmp 15) (.int .u64 x1) (.int .i64 (IntKind.wrap .i64 (8 * s1.2)))) (.int .u64) fun y16 =>
    C.sem (Instr.buildSlice ty_sl_uint8 1 #[(0, (.int .u8 (IntKind.wrap .u8 (y16))))]) .slice fun y18 =>
    C.sem (Builtin.append_ #[ty_sl_uint8, ty_sl_uint8] ty_sl_uint8 #[(.slice s1.1.a s1.1.n s1.1.c), (.slice y18.a y18.n y18.c)]) .slice fun y19 =>
    ct1 [(.slice y19.a y19.n y19.c), (.int .i64 (IntKind.wrap .i64 (s1.2 + 1)))]
  ) (
    C.ret (.slice s1.1.a s1.1.n s1.1.c)
  )
theorem impl_appendLittle_eq (C : Comb) (x0 : Sl) (x1 : Int) (x2 : Int) : fT C Tryz.prog { loop := [(2, [(0, .slice), (9, (.int .i64))])], join := [], anyOrder := [], pure := [] } n_impl_appendLittle [(.slice x0.a x0.n x0.c), (.int .u64 x1), (.int .i64 x2)] = impl_appendLittle C x0 x1 x2 := by kernel_rfl
theorem impl_appendLittle_calls {R : Value → World → Prop} {w : World} (x0 : Sl) (x1 : Int) (x2 : Int) (h : (impl_appendLittle (real Tryz.prog R) x0 x1 x2 : World → Prop) w) :
    Calls Tryz.prog n_impl_appendLittle [(.slice x0.a x0.n x0.c), (.int .u64 x1), (.int .i64 x2)].toArray w fun e w' => ∃ v, e = .returned v ∧ R v w' := fT_sound mixed { loop := [(2, [(0, .slice), (9, (.int .i64))])], join := [], anyOrder := [], pure := [] } (by rw [impl_appendLittle_eq]; exact h)

/-- impl.MixBlock (156) -/
def impl_MixBlock (C : Comb) (x0 : Array Value) (x1 : Array Value) : C.St :=
  C.new ty_arr8_uint32 (.agg x0) fun b2 =>
  C.new ty_arr32_uint8 (.agg x1) fun b3 =>
  C.new ty_arr8_uint32 (.agg (Array.replicate 8 (.int .u32 0))) fun b4 =>
  C.new ty_arr8_uint32 (.agg (Array.replicate 8 (.int .u32 0))) fun b5 =>
  C.st 8 (Addr.mk b5 0 none) (.agg (Array.replicate 8 (.int .u32 0))) <|
  C.loop (TL [(.int .i64)]) (embL [(.int .i64)]) [(.int .i64 0)] fun s5 ct5 => C.any fun _ =>
  cond (decide (s5 < 8)) (
    C.sl (some (Addr.mk b3 0 none)) 32 32 1 (some (IntKind.wrap .i64 (4 * s5))) (some (IntKind.wrap .i64 ((IntKind.wrap .i64 (4 * s5)) + 4))) none fun y23 =>
    C.call n_impl_littleNumber [(.slice y23.a y23.n y23.c)] [(.int .u64)] fun r24 =>
    C.ix (some (Addr.mk b5 0 none)) 8 1 s5 fun p26 =>
    C.st 1 p26 (.int .u32 (IntKind.wrap .u32 (r24))) <|
    ct5 [(.int .i64 (IntKind.wrap .i64 (s5 + 1)))]
  ) (
    C.ld .agg 8 (Addr.mk b2 0 none) fun v28 =>
    C.new ty_arr8_uint32 (.agg (Array.replicate 8 (.int .u32 0))) fun b7 =>
    C.st 8 (Addr.mk b7 0 none) (.agg v28) <|
    C.loop (TL [(.int .i64)]) (embL [(.int .i64)]) [(.int .i64 0)] fun s11 ct11 => C.any fun _ =>
    cond (decide (s11 < 12)) (
      C.loop (TL [(.int .i64)]) (embL [(.int .i64)]) [(.int .i64 0)] fun s12 ct12 => C.any fun _ =>
      cond (decide (s12 < 8)) (
        C.draw <|
        C.ix (some (Addr.mk b7 0 none)) 8 1 s12 fun p36 =>
        C.ld (.int .u32) 1 p36 fun v37 =>
        C.ix (some (Addr.mk b5 0 none)) 8 1 (Int.tmod (IntKind.wrap .i64 (s12 + (IntKind.wrap .i64 (3 * s11)))) 8) fun p43 =>
        C.ld (.int .u32) 1 p43 fun v44 =>
        C.draw <|
        C.callQ n_math_bits_RotateLeft32 [(.int .u32 (IntKind.wrap .u32 ((IntKind.wrap .u32 (v37 + v44)) + (IntKind.wrap .u32 (2654435769 * (IntKind.wrap .u32 ((IntKind.wrap .i64 ((IntKind.wrap .i64 ((IntKind.wrap .i64 (8 * s11)) + s12)) + 1))))))))), (.int .i64 7)] [(.int .u32)] fun r55 =>
        C.ix (some (Addr.mk b7 0 none)) 8 1 (Int.tmod (IntKind.wrap .i64 (s12 + 1)) 8) fun p59 =>
        C.ld (.int .u32) 1 p59 fun v60 =>
        C.ix (some (Addr.mk b7 0 none)) 8 1 (Int.tmod (IntKind.wrap .i64 (s12 + 5)) 8) fun p67 =>
        C.ld (.int .u32) 1 p67 fun v68 =>
        C.call n_math_bits_RotateLeft32 [(.int .u32 v68), (.int .i64 13)] [(.int .u32)] fun r69 =>
        C.ix (some (Addr.mk b7 0 none)) 8 1 s12 fun p71 =>
        C.st 1 p71 (.int .u32 (IntKind.wrap .u32 ((bitsI .xor .u32 r55 v60) + r69))) <|
        ct12 [(.int .i64 (IntKind.wrap .i64 (s12 + 1)))]
      ) (
        ct11 [(.int .i64 (IntKind.wrap .i64 (s11 + 1)))]
      )
    ) (
      C.loop (TL [(.int .i64)]) (embL [(.int .i64)]) [(.int .i64 0)] fun s24 ct24 => C.any fun _ =>
      cond (decide (s24 < 8)) (
        C.draw <|
        C.ix (some (Addr.mk b7 0 none)) 8 1 s24 fun p78 =>
        C.ld (.int .u32) 1 p78 fun v79 =>
        C.ix (some (Addr.mk b2 0 none)) 8 1 s24 fun p81 =>
        C.ld (.int .u32) 1 p81 fun v82 =>
        C.ix (some (Addr.mk b7 0 none)) 8 1 s24 fun p84 =>
        C.st 1 p84 (.int .u32 (bitsI .xor .u32 v79 v82)) <|
        ct24 [(.int .i64 (IntKind.wrap .i64 (s24 + 1)))]
      ) (
        C.ld .agg 8 (Addr.mk b7 0 none) fun v86 =>
        C.st 8 (Addr.mk b4 0 none) (.agg v86) <|
        C.ld .agg 8 (Addr.mk b4 0 none) fun z31 =>
        C.ret (.agg z31)
      )
    )
  )
theorem impl_MixBlock_eq (C : Comb) (x0 : Array Value) (x1 : Array Value) : fT C Tryz.prog { loop := [(3, [(14, (.int .i64))]), (9, [(29, (.int .i64))]), (12, [(32, (.int .i64))]), (20, [(74, (.int .i64))])], join := [], anyOrder := [22], pure := [] } n_impl_MixBlock [(.agg x0), (.agg x1)] = impl_MixBlock C x0 x1 := by kernel_rfl
theorem impl_MixBlock_calls {R : Value → World → Prop} {w : World} (x0 : Array Value) (x1 : Array Value) (h : (impl_MixBlock (real Tryz.prog R) x0 x1 : World → Prop) w) :
    Calls Tryz.prog n_impl_MixBlock [(.agg x0), (.agg x1)].toArray w fun e w' => ∃ v, e = .returned v ∧ R v w' := fT_sound mixed { loop := [(3, [(14, (.int .i64))]), (9, [(29, (.int .i64))]), (12, [(32, (.int .i64))]), (20, [(74, (.int .i64))])], join := [], anyOrder := [22], pure := [] } (by rw [impl_MixBlock_eq]; exact h)

/-- spec.l01Turn (167) -/
def spec_l01Turn (C : Comb) (x0 : Int) (x1 : Int) : C.St :=
  C.pur (eqB .shl ty_uint32 (.tmp 5) (.tmp 6) (.int .u32 x0) (.int .u64 x1)) (.int .u32) fun y7 =>
  C.pur (eqB .shr ty_uint32 (.tmp 8) (.tmp 10) (.int .u32 x0) (.int .u64 (IntKind.wrap .u64 (32 - x1)))) (.int .u32) fun y11 =>
  C.ret (.int .u32 (bitsI .or .u32 y7 y11))
theorem spec_l01Turn_eq (C : Comb) (x0 : Int) (x1 : Int) : fT C Tryz.prog { loop := [], join := [], anyOrder := [], pure := [] } n_spec_l01Turn [(.int .u32 x0), (.int .u64 x1)] = spec_l01Turn C x0 x1 := by kernel_rfl
theorem spec_l01Turn_calls {R : Value → World → Prop} {w : World} (x0 : Int) (x1 : Int) (h : (spec_l01Turn (real Tryz.prog R) x0 x1 : World → Prop) w) :
    Calls Tryz.prog n_spec_l01Turn [(.int .u32 x0), (.int .u64 x1)].toArray w fun e w' => ∃ v, e = .returned v ∧ R v w' := fT_sound mixed { loop := [], join := [], anyOrder := [], pure := [] } (by rw [spec_l01Turn_eq]; exact h)

/-- cmp.isNaN[byte] (168) -/
def cmp_isNaN_byte (C : Comb) (x0 : Int) : C.St :=
  C.ret (.bool (x0 != x0))
theorem cmp_isNaN_byte_eq (C : Comb) (x0 : Int) : fT C Tryz.prog { loop := [], join := [], anyOrder := [], pure := [] } n_cmp_isNaN_byte [(.int .u8 x0)] = cmp_isNaN_byte C x0 := by kernel_rfl
theorem cmp_isNaN_byte_calls {R : Value → World → Prop} {w : World} (x0 : Int) (h : (cmp_isNaN_byte (real Tryz.prog R) x0 : World → Prop) w) :
    Calls Tryz.prog n_cmp_isNaN_byte [(.int .u8 x0)].toArray w fun e w' => ∃ v, e = .returned v ∧ R v w' := fT_sound mixed { loop := [], join := [], anyOrder := [], pure := [] } (by rw [cmp_isNaN_byte_eq]; exact h)

/-- slices.Reverse[[]impl.Blob,impl.Blob] (169) -/
def slices_Reverse_sl_impl_Blob_impl_Blob (C : Comb) (x0 : Sl) : C.St :=
  C.loop (TL [(.int .i64), (.int .i64)]) (embL [(.int .i64), (.int .i64)]) [(.int .i64 0), (.int .i64 (IntKind.wrap .i64 ((x0.n : Int) - 1)))] fun s1 ct1 => C.any fun _ =>
  cond (decide (s1.1 < s1.2)) (
    C.draw <|
    C.ix x0.a x0.n 2 s1.2 fun p20 =>
    C.ld .agg 2 p20 fun v21 =>
    C.ix x0.a x0.n 2 s1.1 fun p24 =>
    C.ld .agg 2 p24 fun v25 =>
    C.ix x0.a x0.n 2 s1.1 fun p26 =>
    C.st 2 p26 (.agg v21) <|
    C.ix x0.a x0.n 2 s1.2 fun p27 =>
    C.st 2 p27 (.agg v25) <|
    ct1 [(.int .i64 (IntKind.wrap .i64 (s1.1 + 1))), (.int .i64 (IntKind.wrap .i64 (s1.2 - 1)))]
  ) (
    C.ret (.tuple #[])
  )
theorem slices_Reverse_sl_impl_Blob_impl_Blob_eq (C : Comb) (x0 : Sl) : fT C Tryz.prog { loop := [(1, [(2, (.int .i64)), (3, (.int .i64))])], join := [], anyOrder := [3], pure := [] } n_slices_Reverse_sl_impl_Blob_impl_Blob [(.slice x0.a x0.n x0.c)] = slices_Reverse_sl_impl_Blob_impl_Blob C x0 := by kernel_rfl
theorem slices_Reverse_sl_impl_Blob_impl_Blob_calls {R : Value → World → Prop} {w : World} (x0 : Sl) (h : (slices_Reverse_sl_impl_Blob_impl_Blob (real Tryz.prog R) x0 : World → Prop) w) :
    Calls Tryz.prog n_slices_Reverse_sl_impl_Blob_impl_Blob [(.slice x0.a x0.n x0.c)].toArray w fun e w' => ∃ v, e = .returned v ∧ R v w' := fT_sound mixed { loop := [(1, [(2, (.int .i64)), (3, (.int .i64))])], join := [], anyOrder := [3], pure := [] } (by rw [slices_Reverse_sl_impl_Blob_impl_Blob_eq]; exact h)

/-- impl.littleNumber (170) -/
def impl_littleNumber (C : Comb) (x0 : Sl) : C.St :=
  C.loop (TL [(.int .u64), (.int .i64)]) (embL [(.int .u64), (.int .i64)]) [(.int .u64 0), (.int .i64 0)] fun s1 ct1 => C.any fun _ =>
  cond (decide (s1.2 < (x0.n : Int))) (
    C.ix x0.a x0.n 1 s1.2 fun p11 =>
    C.ld (.int .u8) 1 p11 fun v12 =>
    C.pur (eqB .shl ty_uint64 (.tmp 15) (.tmp 17) (.int .u64 (IntKind.wrap .u64 (v12))) (.int .i64 (IntKind.wrap .i64 (8 * s1.2)))) (.int .u64) fun y18 =>
    ct1 [(.int .u64 (bitsI .or .u64 s1.1 y18)), (.int .i64 (IntKind.wrap .i64 (s1.2 + 1)))]
  ) (
    C.ret (.int .u64 s1.1)
  )
theorem impl_littleNumber_eq (C : Comb) (x0 : Sl) : fT C Tryz.prog { loop := [(3, [(3, (.int .u64)), (8, (.int .i64))])], join := [], anyOrder := [], pure := [] } n_impl_littleNumber [(.slice x0.a x0.n x0.c)] = impl_littleNumber C x0 := by kernel_rfl
theorem impl_littleNumber_calls {R : Value → World → Prop} {w : World} (x0 : Sl) (h : (impl_littleNumber (real Tryz.prog R) x0 : World → Prop) w) :
    Calls Tryz.prog n_impl_littleNumber [(.slice x0.a x0.n x0.c)].toArray w fun e w' => ∃ v, e = .returned v ∧ R v w' := fT_sound mixed { loop := [(3, [(3, (.int .u64)), (8, (.int .i64))])], join := [], anyOrder := [], pure := [] } (by rw [impl_littleNumber_eq]; exact h)

/-- math/bits.RotateLeft32 (171) -/
def math_bits_RotateLeft32 (C : Comb) (x0 : Int) (x1 : Int) : C.St :=
  C.pur (eqB .shl ty_uint32 (.tmp 9) (.tmp 10) (.int .u32 x0) (.int .u64 (bitsI .and .u64 (IntKind.wrap .u64 (x1)) 31))) (.int .u32) fun y11 =>
  C.pur (eqB .shr ty_uint32 (.tmp 12) (.tmp 14) (.int .u32 x0) (.int .u64 (IntKind.wrap .u64 (32 - (bitsI .and .u64 (IntKind.wrap .u64 (x1)) 31))))) (.int .u32) fun y15 =>
  C.ret (.int .u32 (bitsI .or .u32 y11 y15))
theorem math_bits_RotateLeft32_eq (C : Comb) (x0 : Int) (x1 : Int) : fT C Tryz.prog { loop := [], join := [], anyOrder := [], pure := [] } n_math_bits_RotateLeft32 [(.int .u32 x0), (.int .i64 x1)] = math_bits_RotateLeft32 C x0 x1 := by kernel_rfl
theorem math_bits_RotateLeft32_calls {R : Value → World → Prop} {w : World} (x0 : Int) (x1 : Int) (h : (math_bits_RotateLeft32 (real Tryz.prog R) x0 x1 : World → Prop) w) :
    Calls Tryz.prog n_math_bits_RotateLeft32 [(.int .u32 x0), (.int .i64 x1)].toArray w fun e w' => ∃ v, e = .returned v ∧ R v w' := fT_sound mixed { loop := [], join := [], anyOrder := [], pure := [] } (by rw [math_bits_RotateLeft32_eq]; exact h)
end Go.Proofs.YtcebkinkbelcnaaGreat
