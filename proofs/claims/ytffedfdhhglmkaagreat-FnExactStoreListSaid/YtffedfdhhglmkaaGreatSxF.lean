/- Printed by a program of this claim's author: each Go function as a Lean function over abstract combinators, and the equation that says that T makes it of the loaded code. -/
import Derived.Test.YtffedfdhhglmkaaGreatSxE
import Derived.Test.YtffedfdhhglmkaaGreatProg
namespace Go.Proofs.YtffedfdhhglmkaaGreat
open Go.Sx
/-- impl.listBlobs (74) -/
def impl_listBlobs (C : Comb) (x0 : Sl) : C.St :=
  C.call n_impl_size_impl_Key [(.slice x0.a x0.n x0.c)] [(.int .i64)] fun r9 =>
  cond (decide (r9 < 2)) (
    C.ret (.slice none 0 0)
  ) (
    C.call n_impl_leftOf [(.int .i64 r9)] [(.int .i64)] fun r13 =>
    C.join (TL [.ptr, .ptr]) (embL [.ptr, .ptr]) (fun s39 => C.any fun _ =>
        C.join (TL [.slice]) (embL [.slice]) (fun s45 => C.any fun _ =>
            C.draw <|
            C.sl (some s39.1) 32 32 1 none none none fun y32 =>
            C.sl (some s39.2) 32 32 1 none none none fun y33 =>
            C.sem (Instr.buildSlice ty_sl_sl_uint8 2 #[(0, (.slice y32.a y32.n y32.c)), (1, (.slice y33.a y33.n y33.c))]) .slice fun y34 =>
            C.call n_slices_Concat_sl_byte_byte [(.slice y34.a y34.n y34.c)] [.slice] fun r35 =>
            C.pur (Instr.build ty_impl_Blob #[(0, (.int .u8 2)), (1, (.slice r35.a r35.n r35.c))]) .agg fun y36 =>
            C.sem (Instr.buildSlice ty_sl_impl_Blob 1 #[(0, (.agg y36))]) .slice fun y37 =>
            C.sem (Builtin.append_ #[ty_sl_impl_Blob, ty_sl_impl_Blob] ty_sl_impl_Blob #[(.slice s45.a s45.n s45.c), (.slice y37.a y37.n y37.c)]) .slice fun y38 =>
            C.ret (.slice y38.a y38.n y38.c)
          ) fun jt =>
        C.draw <|
        C.sl x0.a x0.n x0.c 32 none (some r13) none fun y24 =>
        C.sl x0.a x0.n x0.c 32 (some r13) none none fun y28 =>
        C.call n_impl_listBlobs [(.slice y24.a y24.n y24.c)] [.slice] fun r25 =>
        C.call n_impl_listBlobs [(.slice y28.a y28.n y28.c)] [.slice] fun r29 =>
        C.sem (Builtin.append_ #[ty_sl_impl_Blob, ty_sl_impl_Blob] ty_sl_impl_Blob #[(.slice r25.a r25.n r25.c), (.slice r29.a r29.n r29.c)]) .slice fun y30 =>
        jt [(.slice y30.a y30.n y30.c)]
      ) fun jt =>
    C.draw <|
    C.sl x0.a x0.n x0.c 32 none (some r13) none fun y16 =>
    C.sl x0.a x0.n x0.c 32 (some r13) none none fun y20 =>
    C.all [
      (C.call n_impl_listKey [(.slice y16.a y16.n y16.c)] [.agg] fun r17 =>
       C.all [
         (C.call n_impl_listKey [(.slice y20.a y20.n y20.c)] [.agg] fun r21 =>
          C.all [
            (C.new ty_impl_Key (.agg (Array.replicate 32 (.int .u8 0))) fun b5 =>
             C.new ty_impl_Key (.agg (Array.replicate 32 (.int .u8 0))) fun b6 =>
             C.st 32 (Addr.mk b5 0 none) (.agg r17) <|
             C.st 32 (Addr.mk b6 0 none) (.agg r21) <|
             jt [(.pointer (some (Addr.mk b5 0 none))), (.pointer (some (Addr.mk b6 0 none)))]),
            (C.new ty_impl_Key (.agg (Array.replicate 32 (.int .u8 0))) fun b6 =>
             C.new ty_impl_Key (.agg (Array.replicate 32 (.int .u8 0))) fun b5 =>
             C.st 32 (Addr.mk b5 0 none) (.agg r17) <|
             C.st 32 (Addr.mk b6 0 none) (.agg r21) <|
             jt [(.pointer (some (Addr.mk b5 0 none))), (.pointer (some (Addr.mk b6 0 none)))])]),
         (C.new ty_impl_Key (.agg (Array.replicate 32 (.int .u8 0))) fun b5 =>
          C.all [
            (C.call n_impl_listKey [(.slice y20.a y20.n y20.c)] [.agg] fun r21 =>
             C.new ty_impl_Key (.agg (Array.replicate 32 (.int .u8 0))) fun b6 =>
             C.st 32 (Addr.mk b5 0 none) (.agg r17) <|
             C.st 32 (Addr.mk b6 0 none) (.agg r21) <|
             jt [(.pointer (some (Addr.mk b5 0 none))), (.pointer (some (Addr.mk b6 0 none)))]),
            (C.new ty_impl_Key (.agg (Array.replicate 32 (.int .u8 0))) fun b6 =>
             C.call n_impl_listKey [(.slice y20.a y20.n y20.c)] [.agg] fun r21 =>
             C.st 32 (Addr.mk b5 0 none) (.agg r17) <|
             C.st 32 (Addr.mk b6 0 none) (.agg r21) <|
             jt [(.pointer (some (Addr.mk b5 0 none))), (.pointer (some (Addr.mk b6 0 none)))])]),
         (C.new ty_impl_Key (.agg (Array.replicate 32 (.int .u8 0))) fun b6 =>
          C.all [
            (C.call n_impl_listKey [(.slice y20.a y20.n y20.c)] [.agg] fun r21 =>
             C.new ty_impl_Key (.agg (Array.replicate 32 (.int .u8 0))) fun b5 =>
             C.st 32 (Addr.mk b5 0 none) (.agg r17) <|
             C.st 32 (Addr.mk b6 0 none) (.agg r21) <|
             jt [(.pointer (some (Addr.mk b5 0 none))), (.pointer (some (Addr.mk b6 0 none)))]),
            (C.new ty_impl_Key (.agg (Array.replicate 32 (.int .u8 0))) fun b5 =>
             C.call n_impl_listKey [(.slice y20.a y20.n y20.c)] [.agg] fun r21 =>
             C.st 32 (Addr.mk b5 0 none) (.agg r17) <|
             C.st 32 (Addr.mk b6 0 none) (.agg r21) <|
             jt [(.pointer (some (Addr.mk b5 0 none))), (.pointer (some (Addr.mk b6 0 none)))])])]),
      (C.new ty_impl_Key (.agg (Array.replicate 32 (.int .u8 0))) fun b5 =>
       C.all [
         (C.call n_impl_listKey [(.slice y16.a y16.n y16.c)] [.agg] fun r17 =>
          C.all [
            (C.call n_impl_listKey [(.slice y20.a y20.n y20.c)] [.agg] fun r21 =>
             C.new ty_impl_Key (.agg (Array.replicate 32 (.int .u8 0))) fun b6 =>
             C.st 32 (Addr.mk b5 0 none) (.agg r17) <|
             C.st 32 (Addr.mk b6 0 none) (.agg r21) <|
             jt [(.pointer (some (Addr.mk b5 0 none))), (.pointer (some (Addr.mk b6 0 none)))]),
            (C.new ty_impl_Key (.agg (Array.replicate 32 (.int .u8 0))) fun b6 =>
             C.call n_impl_listKey [(.slice y20.a y20.n y20.c)] [.agg] fun r21 =>
             C.st 32 (Addr.mk b5 0 none) (.agg r17) <|
             C.st 32 (Addr.mk b6 0 none) (.agg r21) <|
             jt [(.pointer (some (Addr.mk b5 0 none))), (.pointer (some (Addr.mk b6 0 none)))])]),
         (C.new ty_impl_Key (.agg (Array.replicate 32 (.int .u8 0))) fun b6 =>
          C.call n_impl_listKey [(.slice y16.a y16.n y16.c)] [.agg] fun r17 =>
          C.call n_impl_listKey [(.slice y20.a y20.n y20.c)] [.agg] fun r21 =>
          C.st 32 (Addr.mk b5 0 none) (.agg r17) <|
          C.st 32 (Addr.mk b6 0 none) (.agg r21) <|
          jt [(.pointer (some (Addr.mk b5 0 none))), (.pointer (some (Addr.mk b6 0 none)))])]),
      (C.new ty_impl_Key (.agg (Array.replicate 32 (.int .u8 0))) fun b6 =>
       C.all [
         (C.call n_impl_listKey [(.slice y16.a y16.n y16.c)] [.agg] fun r17 =>
          C.all [
            (C.call n_impl_listKey [(.slice y20.a y20.n y20.c)] [.agg] fun r21 =>
             C.new ty_impl_Key (.agg (Array.replicate 32 (.int .u8 0))) fun b5 =>
             C.st 32 (Addr.mk b5 0 none) (.agg r17) <|
             C.st 32 (Addr.mk b6 0 none) (.agg r21) <|
             jt [(.pointer (some (Addr.mk b5 0 none))), (.pointer (some (Addr.mk b6 0 none)))]),
            (C.new ty_impl_Key (.agg (Array.replicate 32 (.int .u8 0))) fun b5 =>
             C.call n_impl_listKey [(.slice y20.a y20.n y20.c)] [.agg] fun r21 =>
             C.st 32 (Addr.mk b5 0 none) (.agg r17) <|
             C.st 32 (Addr.mk b6 0 none) (.agg r21) <|
             jt [(.pointer (some (Addr.mk b5 0 none))), (.pointer (some (Addr.mk b6 0 none)))])]),
         (C.new ty_impl_Key (.agg (Array.replicate 32 (.int .u8 0))) fun b5 =>
          C.call n_impl_listKey [(.slice y16.a y16.n y16.c)] [.agg] fun r17 =>
          C.call n_impl_listKey [(.slice y20.a y20.n y20.c)] [.agg] fun r21 =>
          C.st 32 (Addr.mk b5 0 none) (.agg r17) <|
          C.st 32 (Addr.mk b6 0 none) (.agg r21) <|
          jt [(.pointer (some (Addr.mk b5 0 none))), (.pointer (some (Addr.mk b6 0 none)))])])]
  )
theorem impl_listBlobs_eq (C : Comb) (x0 : Sl) : fT C Tryz.prog { loop := [], join := [(16, [(5, .ptr), (6, .ptr)]), (19, [(7, .slice)])], anyOrder := [5, 6, 7], pure := [] } n_impl_listBlobs [(.slice x0.a x0.n x0.c)] = impl_listBlobs C x0 := by kernel_rfl
theorem impl_listBlobs_calls {R : Value → World → Prop} {w : World} (x0 : Sl) (h : (impl_listBlobs (real Tryz.prog R) x0 : World → Prop) w) :
    Calls Tryz.prog n_impl_listBlobs [(.slice x0.a x0.n x0.c)].toArray w fun e w' => ∃ v, e = .returned v ∧ R v w' := fT_sound mixed { loop := [], join := [(16, [(5, .ptr), (6, .ptr)]), (19, [(7, .slice)])], anyOrder := [5, 6, 7], pure := [] } (by rw [impl_listBlobs_eq]; exact h)

/-- (*impl.shop).putAll (75) -/
def ptr_impl_shop_putAll (C : Comb) (x0 : Addr) (x1 : Sl) : C.St :=
  C.new ty_impl_Store (.agg (#[(.slice none 0 0)])) fun b4 =>
  C.new ty_impl_Key (.agg (Array.replicate 32 (.int .u8 0))) fun b5 =>
  C.new ty_impl_Key (.agg (Array.replicate 32 (.int .u8 0))) fun b7 =>
  C.st 32 (Addr.mk b7 0 none) (.agg (Array.replicate 32 (.int .u8 0))) <|
  C.loop (TL [(.int .i64)]) (embL [(.int .i64)]) [(.int .i64 0)] fun s4 ct4 => C.any fun _ =>
  cond (decide (s4 < (x1.n : Int))) (
    C.ix x1.a x1.n 2 s4 fun p16 =>
    C.ld .agg 2 p16 fun v17 =>
    C.new ty_impl_Blob (.agg (#[(.int .u8 0), (.slice none 0 0)])) fun b10 =>
    C.st 2 (Addr.mk b10 0 none) (.agg v17) <|
    C.ld .agg 2 (Addr.mk b10 0 none) fun v20 =>
    C.call n_ptr_impl_shop_put [(.pointer (some x0)), (.agg v20)] [.agg, (.int .i64)] fun r21 =>
    C.st 32 (Addr.mk b7 0 none) (.agg r21.1) <|
    cond (r21.2 != 0) (
      C.pur (Instr.build ty_impl_Store #[]) .agg fun y26 =>
      C.st 1 (Addr.mk b4 0 none) (.agg y26) <|
      C.st 32 (Addr.mk b5 0 none) (.agg (Array.replicate 32 (.int .u8 0))) <|
      C.ld .agg 1 (Addr.mk b4 0 none) fun z11 =>
      C.ld .agg 32 (Addr.mk b5 0 none) fun z12 =>
      C.ret (.tuple #[(.agg z11), (.agg z12), (.int .i64 r21.2)])
    ) (
      ct4 [(.int .i64 (IntKind.wrap .i64 (s4 + 1)))]
    )
  ) (
    C.draw <|
    C.ld .agg 32 (Addr.mk b7 0 none) fun v32 =>
    C.call n_ptr_impl_shop_store [(.pointer (some x0))] [.agg] fun r31 =>
    C.chk [⟨2, 32, (Addr.mk b7 0 none), .agg, v32⟩] <|
    C.st 1 (Addr.mk b4 0 none) (.agg r31) <|
    C.chk [⟨2, 32, (Addr.mk b7 0 none), .agg, v32⟩] <|
    C.st 32 (Addr.mk b5 0 none) (.agg v32) <|
    C.ld .agg 1 (Addr.mk b4 0 none) fun z15 =>
    C.ld .agg 32 (Addr.mk b5 0 none) fun z16 =>
    C.ret (.tuple #[(.agg z15), (.agg z16), (.int .i64 0)])
  )
theorem ptr_impl_shop_putAll_eq (C : Comb) (x0 : Addr) (x1 : Sl) : fT C Tryz.prog { loop := [(3, [(14, (.int .i64))])], join := [], anyOrder := [9], pure := [] } n_ptr_impl_shop_putAll [(.pointer (some x0)), (.slice x1.a x1.n x1.c)] = ptr_impl_shop_putAll C x0 x1 := by kernel_rfl
theorem ptr_impl_shop_putAll_calls {R : Value → World → Prop} {w : World} (x0 : Addr) (x1 : Sl) (h : (ptr_impl_shop_putAll (real Tryz.prog R) x0 x1 : World → Prop) w) :
    Calls Tryz.prog n_ptr_impl_shop_putAll [(.pointer (some x0)), (.slice x1.a x1.n x1.c)].toArray w fun e w' => ∃ v, e = .returned v ∧ R v w' := fT_sound mixed { loop := [(3, [(14, (.int .i64))])], join := [], anyOrder := [9], pure := [] } (by rw [ptr_impl_shop_putAll_eq]; exact h)

/-- impl.listKey (76) -/
def impl_listKey (C : Comb) (x0 : Sl) : C.St :=
  C.new ty_impl_Key (.agg (Array.replicate 32 (.int .u8 0))) fun b2 =>
  C.call n_impl_size_impl_Key [(.slice x0.a x0.n x0.c)] [(.int .i64)] fun r6 =>
  cond (r6 == 0) (
    C.call n_impl_hash [(.int .u8 3), (.slice none 0 0)] [.agg] fun r21 =>
    C.st 32 (Addr.mk b2 0 none) (.agg r21) <|
    C.ld .agg 32 (Addr.mk b2 0 none) fun z4 =>
    C.ret (.agg z4)
  ) (
    cond (r6 == 1) (
      C.ix x0.a x0.n 32 0 fun p25 =>
      C.ld .agg 32 p25 fun v26 =>
      C.st 32 (Addr.mk b2 0 none) (.agg v26) <|
      C.ld .agg 32 (Addr.mk b2 0 none) fun z7 =>
      C.ret (.agg z7)
    ) (
      C.call n_impl_leftOf [(.int .i64 r6)] [(.int .i64)] fun r9 =>
      C.draw <|
      C.sl x0.a x0.n x0.c 32 none (some r9) none fun y12 =>
      C.sl x0.a x0.n x0.c 32 (some r9) none none fun y16 =>
      C.call n_impl_listKey [(.slice y12.a y12.n y12.c)] [.agg] fun r13 =>
      C.call n_impl_listKey [(.slice y16.a y16.n y16.c)] [.agg] fun r17 =>
      C.call n_impl_NodeKey [(.agg r13), (.agg r17)] [.agg] fun r18 =>
      C.st 32 (Addr.mk b2 0 none) (.agg r18) <|
      C.ld .agg 32 (Addr.mk b2 0 none) fun z14 =>
      C.ret (.agg z14)
    )
  )
theorem impl_listKey_eq (C : Comb) (x0 : Sl) : fT C Tryz.prog { loop := [], join := [], anyOrder := [4], pure := [] } n_impl_listKey [(.slice x0.a x0.n x0.c)] = impl_listKey C x0 := by kernel_rfl
theorem impl_listKey_calls {R : Value → World → Prop} {w : World} (x0 : Sl) (h : (impl_listKey (real Tryz.prog R) x0 : World → Prop) w) :
    Calls Tryz.prog n_impl_listKey [(.slice x0.a x0.n x0.c)].toArray w fun e w' => ∃ v, e = .returned v ∧ R v w' := fT_sound mixed { loop := [], join := [], anyOrder := [4], pure := [] } (by rw [impl_listKey_eq]; exact h)

/-- laws.heldBlobS (77) -/
def laws_heldBlobS (C : Comb) (x0 : Sl) (x1 : Int) : C.St :=
  C.loop (TL [(.int .i64), (.int .i64)]) (embL [(.int .i64), (.int .i64)]) [(.int .i64 x1), (.int .i64 0)] fun s1 ct1 => C.any fun _ =>
  cond (decide (s1.2 < (x0.n : Int))) (
    C.ix x0.a x0.n 2 s1.2 fun p14 =>
    C.ld (.int .u8) 1 (p14.add 0) fun v16 =>
    cond (v16 != (IntKind.wrap .u8 (s1.1))) (
      C.ret (.int .i64 (-1))
    ) (
      C.ix x0.a x0.n 2 s1.2 fun p24 =>
      C.ld .slice 1 (p24.add 1) fun v26 =>
      C.call n_laws_heldByteS [(.slice v26.a v26.n v26.c), (.int .i64 (IntKind.wrap .i64 (s1.1 + 1)))] [(.int .i64)] fun r28 =>
      cond (decide (r28 < 0)) (
        C.ret (.int .i64 (-1))
      ) (
        ct1 [(.int .i64 r28), (.int .i64 (IntKind.wrap .i64 (s1.2 + 1)))]
      )
    )
  ) (
    C.ret (.int .i64 s1.1)
  )
theorem laws_heldBlobS_eq (C : Comb) (x0 : Sl) (x1 : Int) : fT C Tryz.prog { loop := [(2, [(1, (.int .i64)), (5, (.int .i64))])], join := [], anyOrder := [], pure := [] } n_laws_heldBlobS [(.slice x0.a x0.n x0.c), (.int .i64 x1)] = laws_heldBlobS C x0 x1 := by kernel_rfl
theorem laws_heldBlobS_calls {R : Value → World → Prop} {w : World} (x0 : Sl) (x1 : Int) (h : (laws_heldBlobS (real Tryz.prog R) x0 x1 : World → Prop) w) :
    Calls Tryz.prog n_laws_heldBlobS [(.slice x0.a x0.n x0.c), (.int .i64 x1)].toArray w fun e w' => ∃ v, e = .returned v ∧ R v w' := fT_sound mixed { loop := [(2, [(1, (.int .i64)), (5, (.int .i64))])], join := [], anyOrder := [], pure := [] } (by rw [laws_heldBlobS_eq]; exact h)

/-- laws.szEntry (78) -/
def laws_szEntry (C : Comb) (x0 : Array Value) (x1 : Int) : C.St :=
  C.new ty_laws_Entry (.agg x0) fun b2 =>
  C.ld .str 1 ((Addr.mk b2 0 none).add 0) fun v7 =>
  cond (decide ((IntKind.wrap .i64 (x1 - (v7.size : Int))) < 0)) (
    C.ret (.int .i64 (-1))
  ) (
    C.ld .str 1 ((Addr.mk b2 0 none).add 1) fun v14 =>
    cond (decide ((IntKind.wrap .i64 ((IntKind.wrap .i64 (x1 - (v7.size : Int))) - (v14.size : Int))) < 0)) (
      C.ret (.int .i64 (-1))
    ) (
      C.ret (.int .i64 (IntKind.wrap .i64 ((IntKind.wrap .i64 (x1 - (v7.size : Int))) - (v14.size : Int))))
    )
  )
theorem laws_szEntry_eq (C : Comb) (x0 : Array Value) (x1 : Int) : fT C Tryz.prog { loop := [], join := [], anyOrder := [], pure := [] } n_laws_szEntry [(.agg x0), (.int .i64 x1)] = laws_szEntry C x0 x1 := by kernel_rfl
theorem laws_szEntry_calls {R : Value → World → Prop} {w : World} (x0 : Array Value) (x1 : Int) (h : (laws_szEntry (real Tryz.prog R) x0 x1 : World → Prop) w) :
    Calls Tryz.prog n_laws_szEntry [(.agg x0), (.int .i64 x1)].toArray w fun e w' => ∃ v, e = .returned v ∧ R v w' := fT_sound mixed { loop := [], join := [], anyOrder := [], pure := [] } (by rw [laws_szEntry_eq]; exact h)

/-- spec.l04Ok (79) -/
def spec_l04Ok (C : Comb) (x0 : Sl) : C.St :=
  C.loop (TL [(.int .i64)]) (embL [(.int .i64)]) [(.int .i64 0)] fun s1 ct1 => C.any fun _ =>
  cond (decide (s1 < (x0.n : Int))) (
    C.draw <|
    C.ix x0.a x0.n 2 s1 fun p12 =>
    C.callQ n_spec_l04Entry [(.pointer (some p12))] [.bool] fun r13 =>
    cond (!r13) (
      C.ret (.bool false)
    ) (
      cond (decide (s1 > 0)) (
        C.ix x0.a x0.n 2 (IntKind.wrap .i64 (s1 - 1)) fun p22 =>
        C.ld .str 1 (p22.add 0) fun v24 =>
        C.ix x0.a x0.n 2 s1 fun p27 =>
        C.ld .str 1 (p27.add 0) fun v29 =>
        C.pur (eqB .geq ty_string (.tmp 24) (.tmp 29) (.string v24) (.string v29)) .bool fun y30 =>
        cond y30 (
          C.ret (.bool false)
        ) (
          ct1 [(.int .i64 (IntKind.wrap .i64 (s1 + 1)))]
        )
      ) (
        ct1 [(.int .i64 (IntKind.wrap .i64 (s1 + 1)))]
      )
    )
  ) (
    C.ret (.bool (decide ((x0.n : Int) ≤ 64)))
  )
theorem spec_l04Ok_eq (C : Comb) (x0 : Sl) : fT C Tryz.prog { loop := [(2, [(3, (.int .i64))])], join := [], anyOrder := [], pure := [] } n_spec_l04Ok [(.slice x0.a x0.n x0.c)] = spec_l04Ok C x0 := by kernel_rfl
theorem spec_l04Ok_calls {R : Value → World → Prop} {w : World} (x0 : Sl) (h : (spec_l04Ok (real Tryz.prog R) x0 : World → Prop) w) :
    Calls Tryz.prog n_spec_l04Ok [(.slice x0.a x0.n x0.c)].toArray w fun e w' => ∃ v, e = .returned v ∧ R v w' := fT_sound mixed { loop := [(2, [(3, (.int .i64))])], join := [], anyOrder := [], pure := [] } (by rw [spec_l04Ok_eq]; exact h)

/-- spec.l04Nodes (80) -/
def spec_l04Nodes (C : Comb) (x0 : Sl) : C.St :=
  C.new ty_impl_Key (.agg (Array.replicate 32 (.int .u8 0))) fun b3 =>
  cond ((x0.n : Int) == 0) (
    C.sem (Instr.buildSlice ty_sl_impl_MapNode 0 #[]) .slice fun y14 =>
    C.call n_spec_l04Empty [] [.agg] fun r15 =>
    C.st 32 (Addr.mk b3 0 none) (.agg r15) <|
    C.ld .agg 32 (Addr.mk b3 0 none) fun z4 =>
    C.ret (.tuple #[(.slice y14.a y14.n y14.c), (.agg z4)])
  ) (
    C.call n_spec_l04Top [(.slice x0.a x0.n x0.c)] [(.int .i64)] fun r17 =>
    C.sl x0.a x0.n x0.c 2 none (some r17) none fun y21 =>
    C.call n_spec_l04Nodes [(.slice y21.a y21.n y21.c)] [.slice, .agg] fun r22 =>
    C.new ty_impl_Key (.agg (Array.replicate 32 (.int .u8 0))) fun b6 =>
    C.st 32 (Addr.mk b6 0 none) (.agg r22.2) <|
    C.sl x0.a x0.n x0.c 2 (some (IntKind.wrap .i64 (r17 + 1))) none none fun y29 =>
    C.call n_spec_l04Nodes [(.slice y29.a y29.n y29.c)] [.slice, .agg] fun r30 =>
    C.new ty_impl_Key (.agg (Array.replicate 32 (.int .u8 0))) fun b8 =>
    C.st 32 (Addr.mk b8 0 none) (.agg r30.2) <|
    C.join (TL [.ptr]) (embL [.ptr]) (fun s18 => C.any fun _ =>
        C.ld .agg 66 s18 fun v40 =>
        C.sem (Instr.buildSlice ty_sl_impl_MapNode 1 #[(0, (.agg v40))]) .slice fun y41 =>
        C.sem (Builtin.append_ #[ty_sl_impl_MapNode, ty_sl_impl_MapNode] ty_sl_impl_MapNode #[(.slice y41.a y41.n y41.c), (.slice r22.1.a r22.1.n r22.1.c)]) .slice fun y43 =>
        C.sem (Builtin.append_ #[ty_sl_impl_MapNode, ty_sl_impl_MapNode] ty_sl_impl_MapNode #[(.slice y43.a y43.n y43.c), (.slice r30.1.a r30.1.n r30.1.c)]) .slice fun y46 =>
        C.call n_spec_l04NodeKey [(.pointer (some s18))] [.agg] fun r47 =>
        C.st 32 (Addr.mk b3 0 none) (.agg r47) <|
        C.ld .agg 32 (Addr.mk b3 0 none) fun z24 =>
        C.ret (.tuple #[(.slice y46.a y46.n y46.c), (.agg z24)])
      ) fun jt =>
    C.draw <|
    C.ld .agg 32 (Addr.mk b6 0 none) fun v33 =>
    C.ld .agg 32 (Addr.mk b8 0 none) fun v34 =>
    C.ix x0.a x0.n 2 r17 fun p37 =>
    C.ld .agg 2 p37 fun v38 =>
    C.pur (Instr.build ty_impl_MapNode #[(0, (.agg v33)), (1, (.agg v34)), (2, (.agg v38))]) .agg fun y39 =>
    C.new ty_impl_MapNode (.agg (#[(.int .u8 0), (.int .u8 0), (.int .u8 0), (.int .u8 0), (.int .u8 0), (.int .u8 0), (.int .u8 0), (.int .u8 0), (.int .u8 0), (.int .u8 0), (.int .u8 0), (.int .u8 0), (.int .u8 0), (.int .u8 0), (.int .u8 0), (.int .u8 0), (.int .u8 0), (.int .u8 0), (.int .u8 0), (.int .u8 0), (.int .u8 0), (.int .u8 0), (.int .u8 0), (.int .u8 0), (.int .u8 0), (.int .u8 0), (.int .u8 0), (.int .u8 0), (.int .u8 0), (.int .u8 0), (.int .u8 0), (.int .u8 0), (.int .u8 0), (.int .u8 0), (.int .u8 0), (.int .u8 0), (.int .u8 0), (.int .u8 0), (.int .u8 0), (.int .u8 0), (.int .u8 0), (.int .u8 0), (.int .u8 0), (.int .u8 0), (.int .u8 0), (.int .u8 0), (.int .u8 0), (.int .u8 0), (.int .u8 0), (.int .u8 0), (.int .u8 0), (.int .u8 0), (.int .u8 0), (.int .u8 0), (.int .u8 0), (.int .u8 0), (.int .u8 0), (.int .u8 0), (.int .u8 0), (.int .u8 0), (.int .u8 0), (.int .u8 0), (.int .u8 0), (.int .u8 0), (.string (⟨#[]⟩ : ByteArray)), (.string (⟨#[]⟩ : ByteArray))])) fun b9 =>
    C.chk [⟨5, 2, p37, .agg, v38⟩, ⟨1, 32, (Addr.mk b8 0 none), .agg, v34⟩, ⟨0, 32, (Addr.mk b6 0 none), .agg, v33⟩] <|
    C.st 66 (Addr.mk b9 0 none) (.agg y39) <|
    jt [(.pointer (some (Addr.mk b9 0 none)))]
  )
theorem spec_l04Nodes_eq (C : Comb) (x0 : Sl) : fT C Tryz.prog { loop := [], join := [(19, [(9, .ptr)])], anyOrder := [6], pure := [] } n_spec_l04Nodes [(.slice x0.a x0.n x0.c)] = spec_l04Nodes C x0 := by kernel_rfl
theorem spec_l04Nodes_calls {R : Value → World → Prop} {w : World} (x0 : Sl) (h : (spec_l04Nodes (real Tryz.prog R) x0 : World → Prop) w) :
    Calls Tryz.prog n_spec_l04Nodes [(.slice x0.a x0.n x0.c)].toArray w fun e w' => ∃ v, e = .returned v ∧ R v w' := fT_sound mixed { loop := [], join := [(19, [(9, .ptr)])], anyOrder := [6], pure := [] } (by rw [spec_l04Nodes_eq]; exact h)

/-- spec.l04Bytes (81) -/
def spec_l04Bytes (C : Comb) (x0 : Addr) : C.St :=
  C.sem (Instr.buildSlice ty_sl_uint8 0 #[]) .slice fun y6 =>
  C.loop (TL [.slice, (.int .i64)]) (embL [.slice, (.int .i64)]) [(.slice y6.a y6.n y6.c), (.int .i64 0)] fun s2 ct2 => C.any fun _ =>
  cond (decide (s2.2 < 32)) (
    C.ix (some (x0.add 0)) 32 1 s2.2 fun p16 =>
    C.ld (.int .u8) 1 p16 fun v17 =>
    C.sem (Instr.buildSlice ty_sl_uint8 1 #[(0, (.int .u8 v17))]) .slice fun y18 =>
    C.sem (Builtin.append_ #[ty_sl_uint8, ty_sl_uint8] ty_sl_uint8 #[(.slice s2.1.a s2.1.n s2.1.c), (.slice y18.a y18.n y18.c)]) .slice fun y19 =>
    ct2 [(.slice y19.a y19.n y19.c), (.int .i64 (IntKind.wrap .i64 (s2.2 + 1)))]
  ) (
    C.loop (TL [.slice, (.int .i64)]) (embL [.slice, (.int .i64)]) [(.slice s2.1.a s2.1.n s2.1.c), (.int .i64 0)] fun s7 ct7 => C.any fun _ =>
    cond (decide (s7.2 < 32)) (
      C.ix (some (x0.add 32)) 32 1 s7.2 fun p29 =>
      C.ld (.int .u8) 1 p29 fun v30 =>
      C.sem (Instr.buildSlice ty_sl_uint8 1 #[(0, (.int .u8 v30))]) .slice fun y31 =>
      C.sem (Builtin.append_ #[ty_sl_uint8, ty_sl_uint8] ty_sl_uint8 #[(.slice s7.1.a s7.1.n s7.1.c), (.slice y31.a y31.n y31.c)]) .slice fun y32 =>
      ct7 [(.slice y32.a y32.n y32.c), (.int .i64 (IntKind.wrap .i64 (s7.2 + 1)))]
    ) (
      C.ld .str 1 ((x0.add 64).add 0) fun v38 =>
      C.sem (Instr.buildSlice ty_sl_uint8 1 #[(0, (.int .u8 (IntKind.wrap .u8 ((v38.size : Int)))))]) .slice fun y41 =>
      C.sem (Builtin.append_ #[ty_sl_uint8, ty_sl_uint8] ty_sl_uint8 #[(.slice s7.1.a s7.1.n s7.1.c), (.slice y41.a y41.n y41.c)]) .slice fun y42 =>
      C.ld .str 1 ((x0.add 64).add 0) fun v48 =>
      C.sem (convert ty_string ty_sl_uint8 (.string v48)) .slice fun y49 =>
      C.sem (Builtin.append_ #[ty_sl_uint8, ty_sl_uint8] ty_sl_uint8 #[(.slice y42.a y42.n y42.c), (.slice y49.a y49.n y49.c)]) .slice fun y50 =>
      C.ld .str 1 ((x0.add 64).add 1) fun v56 =>
      C.sem (convert ty_string ty_sl_uint8 (.string v56)) .slice fun y57 =>
      C.sem (Builtin.append_ #[ty_sl_uint8, ty_sl_uint8] ty_sl_uint8 #[(.slice y50.a y50.n y50.c), (.slice y57.a y57.n y57.c)]) .slice fun y58 =>
      C.ret (.slice y58.a y58.n y58.c)
    )
  )
theorem spec_l04Bytes_eq (C : Comb) (x0 : Addr) : fT C Tryz.prog { loop := [(3, [(3, .slice), (4, (.int .i64))]), (7, [(3, .slice), (5, (.int .i64))])], join := [], anyOrder := [], pure := [] } n_spec_l04Bytes [(.pointer (some x0))] = spec_l04Bytes C x0 := by kernel_rfl
theorem spec_l04Bytes_calls {R : Value → World → Prop} {w : World} (x0 : Addr) (h : (spec_l04Bytes (real Tryz.prog R) x0 : World → Prop) w) :
    Calls Tryz.prog n_spec_l04Bytes [(.pointer (some x0))].toArray w fun e w' => ∃ v, e = .returned v ∧ R v w' := fT_sound mixed { loop := [(3, [(3, .slice), (4, (.int .i64))]), (7, [(3, .slice), (5, (.int .i64))])], join := [], anyOrder := [], pure := [] } (by rw [spec_l04Bytes_eq]; exact h)

/-- laws.toEntry (82) -/
def laws_toEntry (C : Comb) (x0 : Array Value) : C.St :=
  C.new ty_laws_Entry (.agg x0) fun b1 =>
  C.new ty_impl_Entry (.agg (#[(.string (⟨#[]⟩ : ByteArray)), (.string (⟨#[]⟩ : ByteArray))])) fun b2 =>
  C.new ty_impl_Entry (.agg (#[(.string (⟨#[]⟩ : ByteArray)), (.string (⟨#[]⟩ : ByteArray))])) fun b3 =>
  C.ld .str 1 ((Addr.mk b1 0 none).add 0) fun v5 =>
  C.st 1 ((Addr.mk b3 0 none).add 0) (.string v5) <|
  C.ld .str 1 ((Addr.mk b1 0 none).add 1) fun v8 =>
  C.st 1 ((Addr.mk b3 0 none).add 1) (.string v8) <|
  C.ld .agg 2 (Addr.mk b3 0 none) fun v10 =>
  C.st 2 (Addr.mk b2 0 none) (.agg v10) <|
  C.ld .agg 2 (Addr.mk b2 0 none) fun z7 =>
  C.ret (.agg z7)
theorem laws_toEntry_eq (C : Comb) (x0 : Array Value) : fT C Tryz.prog { loop := [], join := [], anyOrder := [], pure := [] } n_laws_toEntry [(.agg x0)] = laws_toEntry C x0 := by kernel_rfl
theorem laws_toEntry_calls {R : Value → World → Prop} {w : World} (x0 : Array Value) (h : (laws_toEntry (real Tryz.prog R) x0 : World → Prop) w) :
    Calls Tryz.prog n_laws_toEntry [(.agg x0)].toArray w fun e w' => ∃ v, e = .returned v ∧ R v w' := fT_sound mixed { loop := [], join := [], anyOrder := [], pure := [] } (by rw [laws_toEntry_eq]; exact h)

/-- impl.ValidEntries (83) -/
def impl_ValidEntries (C : Comb) (x0 : Sl) : C.St :=
  C.loop (TL [(.int .i64)]) (embL [(.int .i64)]) [(.int .i64 0)] fun s1 ct1 => C.any fun _ =>
  cond (decide (s1 < (x0.n : Int))) (
    C.ix x0.a x0.n 2 s1 fun p10 =>
    C.ld .agg 2 p10 fun v11 =>
    C.new ty_impl_Entry (.agg (#[(.string (⟨#[]⟩ : ByteArray)), (.string (⟨#[]⟩ : ByteArray))])) fun b4 =>
    C.st 2 (Addr.mk b4 0 none) (.agg v11) <|
    C.draw <|
    C.ld .agg 2 (Addr.mk b4 0 none) fun v12 =>
    C.call n_impl_ValidEntry [(.agg v12)] [.bool] fun r13 =>
    cond (!r13) (
      C.all [
        (C.ret (.bool false)),
        (C.ret (.bool false))]
    ) (
      cond (decide (s1 > 0)) (
        C.ix x0.a x0.n 2 (IntKind.wrap .i64 (s1 - 1)) fun p24 =>
        C.all [
          (C.ld .str 1 ((Addr.mk b4 0 none).add 0) fun v20 =>
           C.ld .str 1 (p24.add 0) fun v26 =>
           C.pur (eqB .leq ty_string (.tmp 20) (.tmp 26) (.string v20) (.string v26)) .bool fun y27 =>
           cond y27 (
             C.ret (.bool false)
           ) (
             ct1 [(.int .i64 (IntKind.wrap .i64 (s1 + 1)))]
           )),
          (C.ld .str 1 (p24.add 0) fun v26 =>
           C.ld .str 1 ((Addr.mk b4 0 none).add 0) fun v20 =>
           C.pur (eqB .leq ty_string (.tmp 20) (.tmp 26) (.string v20) (.string v26)) .bool fun y27 =>
           cond y27 (
             C.ret (.bool false)
           ) (
             ct1 [(.int .i64 (IntKind.wrap .i64 (s1 + 1)))]
           ))]
      ) (
        C.all [
          (ct1 [(.int .i64 (IntKind.wrap .i64 (s1 + 1)))]),
          (ct1 [(.int .i64 (IntKind.wrap .i64 (s1 + 1)))])]
      )
    )
  ) (
    C.ret (.bool (decide ((x0.n : Int) ≤ 64)))
  )
theorem impl_ValidEntries_eq (C : Comb) (x0 : Sl) : fT C Tryz.prog { loop := [(2, [(7, (.int .i64))])], join := [], anyOrder := [4], pure := [] } n_impl_ValidEntries [(.slice x0.a x0.n x0.c)] = impl_ValidEntries C x0 := by kernel_rfl
theorem impl_ValidEntries_calls {R : Value → World → Prop} {w : World} (x0 : Sl) (h : (impl_ValidEntries (real Tryz.prog R) x0 : World → Prop) w) :
    Calls Tryz.prog n_impl_ValidEntries [(.slice x0.a x0.n x0.c)].toArray w fun e w' => ∃ v, e = .returned v ∧ R v w' := fT_sound mixed { loop := [(2, [(7, (.int .i64))])], join := [], anyOrder := [4], pure := [] } (by rw [impl_ValidEntries_eq]; exact h)

/-- impl.allNodes (84) -/
def impl_allNodes (C : Comb) (x0 : Sl) : C.St :=
  C.call n_impl_treeOf [(.slice x0.a x0.n x0.c)] [.optr] fun r5 =>
  C.call n_ptr_impl_tree_nodes [(.pointer r5), (.func (.func n_impl_allNodes_1) #[] #[]), (.func (.func n_impl_allNodes_1) #[] #[])] [.slice] fun r8 =>
  C.ret (.slice r8.a r8.n r8.c)
theorem impl_allNodes_eq (C : Comb) (x0 : Sl) : fT C Tryz.prog { loop := [], join := [], anyOrder := [], pure := [] } n_impl_allNodes [(.slice x0.a x0.n x0.c)] = impl_allNodes C x0 := by kernel_rfl
theorem impl_allNodes_calls {R : Value → World → Prop} {w : World} (x0 : Sl) (h : (impl_allNodes (real Tryz.prog R) x0 : World → Prop) w) :
    Calls Tryz.prog n_impl_allNodes [(.slice x0.a x0.n x0.c)].toArray w fun e w' => ∃ v, e = .returned v ∧ R v w' := fT_sound mixed { loop := [], join := [], anyOrder := [], pure := [] } (by rw [impl_allNodes_eq]; exact h)

/-- (impl.MapNode).bytes (85) -/
def impl_MapNode_bytes (C : Comb) (x0 : Array Value) : C.St :=
  C.new ty_impl_MapNode (.agg x0) fun b1 =>
  C.draw <|
  C.sl (some ((Addr.mk b1 0 none).add 0)) 32 32 1 none none none fun y4 =>
  C.sl (some ((Addr.mk b1 0 none).add 32)) 32 32 1 none none none fun y6 =>
  C.ld .str 1 (((Addr.mk b1 0 none).add 64).add 0) fun v9 =>
  C.ld .str 1 (((Addr.mk b1 0 none).add 64).add 0) fun v15 =>
  C.ld .str 1 (((Addr.mk b1 0 none).add 64).add 1) fun v19 =>
  C.all [
    (C.sem (Instr.buildSlice ty_sl_uint8 1 #[(0, (.int .u8 (IntKind.wrap .u8 ((v9.size : Int)))))]) .slice fun y12 =>
     C.chk [⟨16, 1, (((Addr.mk b1 0 none).add 64).add 1), .str, v19⟩, ⟨12, 1, (((Addr.mk b1 0 none).add 64).add 0), .str, v15⟩, ⟨6, 1, (((Addr.mk b1 0 none).add 64).add 0), .str, v9⟩] <|
     C.all [
       (C.sem (convert ty_string ty_sl_uint8 (.string v15)) .slice fun y16 =>
        C.chk [⟨16, 1, (((Addr.mk b1 0 none).add 64).add 1), .str, v19⟩, ⟨6, 1, (((Addr.mk b1 0 none).add 64).add 0), .str, v9⟩] <|
        C.sem (convert ty_string ty_sl_uint8 (.string v19)) .slice fun y20 =>
        C.chk [⟨6, 1, (((Addr.mk b1 0 none).add 64).add 0), .str, v9⟩] <|
        C.sem (Instr.buildSlice ty_sl_sl_uint8 5 #[(0, (.slice y4.a y4.n y4.c)), (1, (.slice y6.a y6.n y6.c)), (2, (.slice y12.a y12.n y12.c)), (3, (.slice y16.a y16.n y16.c)), (4, (.slice y20.a y20.n y20.c))]) .slice fun y21 =>
        C.chk [⟨6, 1, (((Addr.mk b1 0 none).add 64).add 0), .str, v9⟩] <|
        C.call n_slices_Concat_sl_byte_byte [(.slice y21.a y21.n y21.c)] [.slice] fun r22 =>
        C.chk [⟨6, 1, (((Addr.mk b1 0 none).add 64).add 0), .str, v9⟩] <|
        C.ret (.slice r22.a r22.n r22.c)),
       (C.sem (convert ty_string ty_sl_uint8 (.string v19)) .slice fun y20 =>
        C.chk [⟨12, 1, (((Addr.mk b1 0 none).add 64).add 0), .str, v15⟩, ⟨6, 1, (((Addr.mk b1 0 none).add 64).add 0), .str, v9⟩] <|
        C.sem (convert ty_string ty_sl_uint8 (.string v15)) .slice fun y16 =>
        C.chk [⟨6, 1, (((Addr.mk b1 0 none).add 64).add 0), .str, v9⟩] <|
        C.sem (Instr.buildSlice ty_sl_sl_uint8 5 #[(0, (.slice y4.a y4.n y4.c)), (1, (.slice y6.a y6.n y6.c)), (2, (.slice y12.a y12.n y12.c)), (3, (.slice y16.a y16.n y16.c)), (4, (.slice y20.a y20.n y20.c))]) .slice fun y21 =>
        C.chk [⟨6, 1, (((Addr.mk b1 0 none).add 64).add 0), .str, v9⟩] <|
        C.call n_slices_Concat_sl_byte_byte [(.slice y21.a y21.n y21.c)] [.slice] fun r22 =>
        C.chk [⟨6, 1, (((Addr.mk b1 0 none).add 64).add 0), .str, v9⟩] <|
        C.ret (.slice r22.a r22.n r22.c))]),
    (C.sem (convert ty_string ty_sl_uint8 (.string v15)) .slice fun y16 =>
     C.chk [⟨16, 1, (((Addr.mk b1 0 none).add 64).add 1), .str, v19⟩, ⟨6, 1, (((Addr.mk b1 0 none).add 64).add 0), .str, v9⟩] <|
     C.all [
       (C.sem (Instr.buildSlice ty_sl_uint8 1 #[(0, (.int .u8 (IntKind.wrap .u8 ((v9.size : Int)))))]) .slice fun y12 =>
        C.chk [⟨16, 1, (((Addr.mk b1 0 none).add 64).add 1), .str, v19⟩, ⟨6, 1, (((Addr.mk b1 0 none).add 64).add 0), .str, v9⟩] <|
        C.sem (convert ty_string ty_sl_uint8 (.string v19)) .slice fun y20 =>
        C.chk [⟨6, 1, (((Addr.mk b1 0 none).add 64).add 0), .str, v9⟩] <|
        C.sem (Instr.buildSlice ty_sl_sl_uint8 5 #[(0, (.slice y4.a y4.n y4.c)), (1, (.slice y6.a y6.n y6.c)), (2, (.slice y12.a y12.n y12.c)), (3, (.slice y16.a y16.n y16.c)), (4, (.slice y20.a y20.n y20.c))]) .slice fun y21 =>
        C.chk [⟨6, 1, (((Addr.mk b1 0 none).add 64).add 0), .str, v9⟩] <|
        C.call n_slices_Concat_sl_byte_byte [(.slice y21.a y21.n y21.c)] [.slice] fun r22 =>
        C.chk [⟨6, 1, (((Addr.mk b1 0 none).add 64).add 0), .str, v9⟩] <|
        C.ret (.slice r22.a r22.n r22.c)),
       (C.sem (convert ty_string ty_sl_uint8 (.string v19)) .slice fun y20 =>
        C.chk [⟨6, 1, (((Addr.mk b1 0 none).add 64).add 0), .str, v9⟩] <|
        C.sem (Instr.buildSlice ty_sl_uint8 1 #[(0, (.int .u8 (IntKind.wrap .u8 ((v9.size : Int)))))]) .slice fun y12 =>
        C.chk [⟨6, 1, (((Addr.mk b1 0 none).add 64).add 0), .str, v9⟩] <|
        C.sem (Instr.buildSlice ty_sl_sl_uint8 5 #[(0, (.slice y4.a y4.n y4.c)), (1, (.slice y6.a y6.n y6.c)), (2, (.slice y12.a y12.n y12.c)), (3, (.slice y16.a y16.n y16.c)), (4, (.slice y20.a y20.n y20.c))]) .slice fun y21 =>
        C.chk [⟨6, 1, (((Addr.mk b1 0 none).add 64).add 0), .str, v9⟩] <|
        C.call n_slices_Concat_sl_byte_byte [(.slice y21.a y21.n y21.c)] [.slice] fun r22 =>
        C.chk [⟨6, 1, (((Addr.mk b1 0 none).add 64).add 0), .str, v9⟩] <|
        C.ret (.slice r22.a r22.n r22.c))]),
    (C.sem (convert ty_string ty_sl_uint8 (.string v19)) .slice fun y20 =>
     C.chk [⟨12, 1, (((Addr.mk b1 0 none).add 64).add 0), .str, v15⟩, ⟨6, 1, (((Addr.mk b1 0 none).add 64).add 0), .str, v9⟩] <|
     C.all [
       (C.sem (Instr.buildSlice ty_sl_uint8 1 #[(0, (.int .u8 (IntKind.wrap .u8 ((v9.size : Int)))))]) .slice fun y12 =>
        C.chk [⟨12, 1, (((Addr.mk b1 0 none).add 64).add 0), .str, v15⟩, ⟨6, 1, (((Addr.mk b1 0 none).add 64).add 0), .str, v9⟩] <|
        C.sem (convert ty_string ty_sl_uint8 (.string v15)) .slice fun y16 =>
        C.chk [⟨6, 1, (((Addr.mk b1 0 none).add 64).add 0), .str, v9⟩] <|
        C.sem (Instr.buildSlice ty_sl_sl_uint8 5 #[(0, (.slice y4.a y4.n y4.c)), (1, (.slice y6.a y6.n y6.c)), (2, (.slice y12.a y12.n y12.c)), (3, (.slice y16.a y16.n y16.c)), (4, (.slice y20.a y20.n y20.c))]) .slice fun y21 =>
        C.chk [⟨6, 1, (((Addr.mk b1 0 none).add 64).add 0), .str, v9⟩] <|
        C.call n_slices_Concat_sl_byte_byte [(.slice y21.a y21.n y21.c)] [.slice] fun r22 =>
        C.chk [⟨6, 1, (((Addr.mk b1 0 none).add 64).add 0), .str, v9⟩] <|
        C.ret (.slice r22.a r22.n r22.c)),
       (C.sem (convert ty_string ty_sl_uint8 (.string v15)) .slice fun y16 =>
        C.chk [⟨6, 1, (((Addr.mk b1 0 none).add 64).add 0), .str, v9⟩] <|
        C.sem (Instr.buildSlice ty_sl_uint8 1 #[(0, (.int .u8 (IntKind.wrap .u8 ((v9.size : Int)))))]) .slice fun y12 =>
        C.chk [⟨6, 1, (((Addr.mk b1 0 none).add 64).add 0), .str, v9⟩] <|
        C.sem (Instr.buildSlice ty_sl_sl_uint8 5 #[(0, (.slice y4.a y4.n y4.c)), (1, (.slice y6.a y6.n y6.c)), (2, (.slice y12.a y12.n y12.c)), (3, (.slice y16.a y16.n y16.c)), (4, (.slice y20.a y20.n y20.c))]) .slice fun y21 =>
        C.chk [⟨6, 1, (((Addr.mk b1 0 none).add 64).add 0), .str, v9⟩] <|
        C.call n_slices_Concat_sl_byte_byte [(.slice y21.a y21.n y21.c)] [.slice] fun r22 =>
        C.chk [⟨6, 1, (((Addr.mk b1 0 none).add 64).add 0), .str, v9⟩] <|
        C.ret (.slice r22.a r22.n r22.c))])]
theorem impl_MapNode_bytes_eq (C : Comb) (x0 : Array Value) : fT C Tryz.prog { loop := [], join := [], anyOrder := [1], pure := [] } n_impl_MapNode_bytes [(.agg x0)] = impl_MapNode_bytes C x0 := by kernel_rfl
theorem impl_MapNode_bytes_calls {R : Value → World → Prop} {w : World} (x0 : Array Value) (h : (impl_MapNode_bytes (real Tryz.prog R) x0 : World → Prop) w) :
    Calls Tryz.prog n_impl_MapNode_bytes [(.agg x0)].toArray w fun e w' => ∃ v, e = .returned v ∧ R v w' := fT_sound mixed { loop := [], join := [], anyOrder := [1], pure := [] } (by rw [impl_MapNode_bytes_eq]; exact h)

/-- impl.treeOf (86) -/
def impl_treeOf (C : Comb) (x0 : Sl) : C.St :=
  C.sem (Instr.buildSlice ty_sl_impl_Key 0 #[]) .slice fun y6 =>
  C.loop (TL [.slice, (.int .i64)]) (embL [.slice, (.int .i64)]) [(.slice y6.a y6.n y6.c), (.int .i64 0)] fun s2 ct2 => C.any fun _ =>
  cond (decide (s2.2 < (x0.n : Int))) (
    C.ix x0.a x0.n 2 s2.2 fun p11 =>
    C.ld .agg 2 p11 fun v12 =>
    C.new ty_impl_Entry (.agg (#[(.string (⟨#[]⟩ : ByteArray)), (.string (⟨#[]⟩ : ByteArray))])) fun b5 =>
    C.st 2 (Addr.mk b5 0 none) (.agg v12) <|
    C.ld .str 1 ((Addr.mk b5 0 none).add 0) fun v15 =>
    C.sem (convert ty_string ty_sl_uint8 (.string v15)) .slice fun y16 =>
    C.call n_impl_hash [(.int .u8 4), (.slice y16.a y16.n y16.c)] [.agg] fun r17 =>
    C.sem (Instr.buildSlice ty_sl_impl_Key 1 #[(0, (.agg r17))]) .slice fun y18 =>
    C.sem (Builtin.append_ #[ty_sl_impl_Key, ty_sl_impl_Key] ty_sl_impl_Key #[(.slice s2.1.a s2.1.n s2.1.c), (.slice y18.a y18.n y18.c)]) .slice fun y19 =>
    ct2 [(.slice y19.a y19.n y19.c), (.int .i64 (IntKind.wrap .i64 (s2.2 + 1)))]
  ) (
    C.call n_impl_grow [(.slice x0.a x0.n x0.c), (.slice s2.1.a s2.1.n s2.1.c)] [.optr] fun r23 =>
    C.ret (.pointer r23)
  )
theorem impl_treeOf_eq (C : Comb) (x0 : Sl) : fT C Tryz.prog { loop := [(3, [(3, .slice), (9, (.int .i64))])], join := [], anyOrder := [], pure := [] } n_impl_treeOf [(.slice x0.a x0.n x0.c)] = impl_treeOf C x0 := by kernel_rfl
theorem impl_treeOf_calls {R : Value → World → Prop} {w : World} (x0 : Sl) (h : (impl_treeOf (real Tryz.prog R) x0 : World → Prop) w) :
    Calls Tryz.prog n_impl_treeOf [(.slice x0.a x0.n x0.c)].toArray w fun e w' => ∃ v, e = .returned v ∧ R v w' := fT_sound mixed { loop := [(3, [(3, .slice), (9, (.int .i64))])], join := [], anyOrder := [], pure := [] } (by rw [impl_treeOf_eq]; exact h)

/-- (*impl.tree).key (87) -/
def ptr_impl_tree_key (C : Comb) (x0 : Option Addr) : C.St :=
  C.new ty_impl_Key (.agg (Array.replicate 32 (.int .u8 0))) fun b2 =>
  C.pur (eqB .eql ty_ptr_impl_tree (.tmp 3) (.const (.pointer none)) (.pointer x0) (.pointer none)) .bool fun y4 =>
  cond y4 (
    C.call n_impl_EmptyMapKey [] [.agg] fun r5 =>
    C.st 32 (Addr.mk b2 0 none) (.agg r5) <|
    C.ld .agg 32 (Addr.mk b2 0 none) fun z4 =>
    C.ret (.agg z4)
  ) (
    dpT C x0 fun a5 =>
    C.ld .agg 66 (a5.add 0) fun v9 =>
    C.call n_impl_MapNode_key [(.agg v9)] [.agg] fun r10 =>
    C.st 32 (Addr.mk b2 0 none) (.agg r10) <|
    C.ld .agg 32 (Addr.mk b2 0 none) fun z8 =>
    C.ret (.agg z8)
  )
theorem ptr_impl_tree_key_eq (C : Comb) (x0 : Option Addr) : fT C Tryz.prog { loop := [], join := [], anyOrder := [], pure := [] } n_ptr_impl_tree_key [(.pointer x0)] = ptr_impl_tree_key C x0 := by kernel_rfl
theorem ptr_impl_tree_key_calls {R : Value → World → Prop} {w : World} (x0 : Option Addr) (h : (ptr_impl_tree_key (real Tryz.prog R) x0 : World → Prop) w) :
    Calls Tryz.prog n_ptr_impl_tree_key [(.pointer x0)].toArray w fun e w' => ∃ v, e = .returned v ∧ R v w' := fT_sound mixed { loop := [], join := [], anyOrder := [], pure := [] } (by rw [ptr_impl_tree_key_eq]; exact h)

/-- laws.eqEntry (88) -/
def laws_eqEntry (C : Comb) (x0 : Array Value) (x1 : Array Value) : C.St :=
  C.new ty_impl_Entry (.agg x0) fun b2 =>
  C.new ty_impl_Entry (.agg x1) fun b3 =>
  C.ld .str 1 ((Addr.mk b2 0 none).add 0) fun v6 =>
  C.ld .str 1 ((Addr.mk b3 0 none).add 0) fun v8 =>
  C.pur (eqB .neq ty_string (.tmp 6) (.tmp 8) (.string v6) (.string v8)) .bool fun y9 =>
  cond y9 (
    C.ret (.bool false)
  ) (
    C.ld .str 1 ((Addr.mk b2 0 none).add 1) fun v11 =>
    C.ld .str 1 ((Addr.mk b3 0 none).add 1) fun v13 =>
    C.pur (eqB .neq ty_string (.tmp 11) (.tmp 13) (.string v11) (.string v13)) .bool fun y14 =>
    cond y14 (
      C.ret (.bool false)
    ) (
      C.ret (.bool true)
    )
  )
theorem laws_eqEntry_eq (C : Comb) (x0 : Array Value) (x1 : Array Value) : fT C Tryz.prog { loop := [], join := [], anyOrder := [], pure := [] } n_laws_eqEntry [(.agg x0), (.agg x1)] = laws_eqEntry C x0 x1 := by kernel_rfl
theorem laws_eqEntry_calls {R : Value → World → Prop} {w : World} (x0 : Array Value) (x1 : Array Value) (h : (laws_eqEntry (real Tryz.prog R) x0 x1 : World → Prop) w) :
    Calls Tryz.prog n_laws_eqEntry [(.agg x0), (.agg x1)].toArray w fun e w' => ∃ v, e = .returned v ∧ R v w' := fT_sound mixed { loop := [], join := [], anyOrder := [], pure := [] } (by rw [laws_eqEntry_eq]; exact h)

/-- laws.markText (89) -/
def laws_markText (C : Comb) (x0 : Int) : C.St :=
  cond (decide (x0 ≤ 0)) (
    C.ret (.string (⟨#[109, 48]⟩ : ByteArray))
  ) (
    C.loop (TL [(.int .i64), .str]) (embL [(.int .i64), .str]) [(.int .i64 x0), (.string (⟨#[]⟩ : ByteArray))] fun s1 ct1 => C.any fun _ =>
    cond (decide (s1.1 > 0)) (
      C.sem (Instr.buildSlice ty_sl_uint8 1 #[(0, (.int .u8 (IntKind.wrap .u8 ((IntKind.wrap .i64 (48 + (Int.tmod s1.1 10)))))))]) .slice fun y12 =>
      C.sem (convert ty_sl_uint8 ty_string (.slice y12.a y12.n y12.c)) .str fun y13 =>
      C.pur (eqB .add ty_string (.tmp 13) (.tmp 14) (.string y13) (.string s1.2)) .str fun y15 =>
      ct1 [(.int .i64 (IntKind.wrap .i64 (Int.tdiv s1.1 10))), (.string y15)]
    ) (
      C.pur (eqB .add ty_string (.const (.string (⟨#[109]⟩ : ByteArray))) (.tmp 18) (.string (⟨#[109]⟩ : ByteArray)) (.string s1.2)) .str fun y19 =>
      C.ret (.string y19)
    )
  )
theorem laws_markText_eq (C : Comb) (x0 : Int) : fT C Tryz.prog { loop := [(4, [(0, (.int .i64)), (3, .str)])], join := [], anyOrder := [], pure := [] } n_laws_markText [(.int .i64 x0)] = laws_markText C x0 := by kernel_rfl
theorem laws_markText_calls {R : Value → World → Prop} {w : World} (x0 : Int) (h : (laws_markText (real Tryz.prog R) x0 : World → Prop) w) :
    Calls Tryz.prog n_laws_markText [(.int .i64 x0)].toArray w fun e w' => ∃ v, e = .returned v ∧ R v w' := fT_sound mixed { loop := [(4, [(0, (.int .i64)), (3, .str)])], join := [], anyOrder := [], pure := [] } (by rw [laws_markText_eq]; exact h)

/-- spec.l05LoadMap (90) -/
def spec_l05LoadMap (C : Comb) (x0 : Addr) (x1 : Array Value) : C.St :=
  C.new ty_impl_Key (.agg x1) fun b3 =>
  C.new ty_impl_Key (.agg (Array.replicate 32 (.int .u8 0))) fun b5 =>
  C.sem (Instr.buildSlice ty_sl_impl_Entry 0 #[]) .slice fun y9 =>
  C.pur (Instr.build ty_spec_l05Load #[(0, (.pointer (some x0))), (1, (.slice y9.a y9.n y9.c))]) .agg fun y10 =>
  C.new ty_spec_l05Load (.agg y10) fun b11 =>
  C.ld .agg 32 (Addr.mk b3 0 none) fun v13 =>
  C.call n_ptr_spec_l05Load_tree [(.pointer (some (Addr.mk b11 0 none))), (.agg v13), (.string (⟨#[]⟩ : ByteArray)), (.string (⟨#[]⟩ : ByteArray)), (.bool false)] [] fun r14 =>
  C.ld (.int .i64) 1 ((Addr.mk b11 0 none).add 35) fun v18 =>
  cond (v18 != 0) (
    C.draw <|
    C.ld .agg 32 ((Addr.mk b11 0 none).add 3) fun v24 =>
    C.ld (.int .i64) 1 ((Addr.mk b11 0 none).add 35) fun v28 =>
    C.sem (Instr.buildSlice ty_sl_impl_Entry 0 #[]) .slice fun y20 =>
    C.chk [⟨8, 1, ((Addr.mk b11 0 none).add 35), (.int .i64), v28⟩, ⟨4, 32, ((Addr.mk b11 0 none).add 3), .agg, v24⟩] <|
    C.st 32 (Addr.mk b5 0 none) (.agg v24) <|
    C.chk [⟨8, 1, ((Addr.mk b11 0 none).add 35), (.int .i64), v28⟩] <|
    C.ld .agg 32 (Addr.mk b5 0 none) fun z12 =>
    C.ret (.tuple #[(.slice y20.a y20.n y20.c), (.agg z12), (.int .i64 v28)])
  ) (
    C.ld .slice 1 ((Addr.mk b11 0 none).add 1) fun v32 =>
    C.st 32 (Addr.mk b5 0 none) (.agg (Array.replicate 32 (.int .u8 0))) <|
    C.ld .agg 32 (Addr.mk b5 0 none) fun z14 =>
    C.ret (.tuple #[(.slice v32.a v32.n v32.c), (.agg z14), (.int .i64 0)])
  )
theorem spec_l05LoadMap_eq (C : Comb) (x0 : Addr) (x1 : Array Value) : fT C Tryz.prog { loop := [], join := [], anyOrder := [4], pure := [] } n_spec_l05LoadMap [(.pointer (some x0)), (.agg x1)] = spec_l05LoadMap C x0 x1 := by kernel_rfl
theorem spec_l05LoadMap_calls {R : Value → World → Prop} {w : World} (x0 : Addr) (x1 : Array Value) (h : (spec_l05LoadMap (real Tryz.prog R) x0 x1 : World → Prop) w) :
    Calls Tryz.prog n_spec_l05LoadMap [(.pointer (some x0)), (.agg x1)].toArray w fun e w' => ∃ v, e = .returned v ∧ R v w' := fT_sound mixed { loop := [], join := [], anyOrder := [4], pure := [] } (by rw [spec_l05LoadMap_eq]; exact h)

/-- impl.newMapper (91) -/
def impl_newMapper (C : Comb) (x0 : Addr) : C.St :=
  C.call n_impl_EmptyMapKey [] [.agg] fun r4 =>
  C.pur (Instr.build ty_impl_mapper #[(0, (.pointer (some x0))), (1, (.agg r4))]) .agg fun y5 =>
  C.new ty_impl_mapper (.agg y5) fun b6 =>
  C.ret (.pointer (some (Addr.mk b6 0 none)))
theorem impl_newMapper_eq (C : Comb) (x0 : Addr) : fT C Tryz.prog { loop := [], join := [], anyOrder := [], pure := [] } n_impl_newMapper [(.pointer (some x0))] = impl_newMapper C x0 := by kernel_rfl
theorem impl_newMapper_calls {R : Value → World → Prop} {w : World} (x0 : Addr) (h : (impl_newMapper (real Tryz.prog R) x0 : World → Prop) w) :
    Calls Tryz.prog n_impl_newMapper [(.pointer (some x0))].toArray w fun e w' => ∃ v, e = .returned v ∧ R v w' := fT_sound mixed { loop := [], join := [], anyOrder := [], pure := [] } (by rw [impl_newMapper_eq]; exact h)

/-- (*impl.mapper).load (92) -/
def ptr_impl_mapper_load (C : Comb) (x0 : Addr) (x1 : Array Value) : C.St :=
  C.new ty_impl_Key (.agg x1) fun b3 =>
  C.sem (Instr.buildSlice ty_sl_impl_Entry 0 #[]) .slice fun y9 =>
  C.new ty_sl_impl_Entry (.slice none 0 0) fun b6 =>
  C.st 1 (Addr.mk b6 0 none) (.slice y9.a y9.n y9.c) <|
  C.ld .agg 32 (Addr.mk b3 0 none) fun v11 =>
  C.call n_ptr_impl_mapper_walk [(.pointer (some x0)), (.agg v11), (.pointer none), (.pointer none), (.func (.func n_ptr_impl_mapper_load_1) #[] #[]), (.func (.func n_ptr_impl_mapper_load_1) #[] #[]), (.func (.func n_ptr_impl_mapper_load_2) #[] #[]), (.func (.func n_ptr_impl_mapper_load_3) #[] #[(.pointer (some (Addr.mk b6 0 none)))])] [(.int .i64)] fun r15 =>
  cond (r15 != 0) (
    C.ret (.tuple #[(.slice none 0 0), (.int .i64 r15)])
  ) (
    C.ld .slice 1 (Addr.mk b6 0 none) fun v19 =>
    C.ret (.tuple #[(.slice v19.a v19.n v19.c), (.int .i64 0)])
  )
theorem ptr_impl_mapper_load_eq (C : Comb) (x0 : Addr) (x1 : Array Value) : fT C Tryz.prog { loop := [], join := [], anyOrder := [], pure := [] } n_ptr_impl_mapper_load [(.pointer (some x0)), (.agg x1)] = ptr_impl_mapper_load C x0 x1 := by kernel_rfl
theorem ptr_impl_mapper_load_calls {R : Value → World → Prop} {w : World} (x0 : Addr) (x1 : Array Value) (h : (ptr_impl_mapper_load (real Tryz.prog R) x0 x1 : World → Prop) w) :
    Calls Tryz.prog n_ptr_impl_mapper_load [(.pointer (some x0)), (.agg x1)].toArray w fun e w' => ∃ v, e = .returned v ∧ R v w' := fT_sound mixed { loop := [], join := [], anyOrder := [], pure := [] } (by rw [ptr_impl_mapper_load_eq]; exact h)

/-- spec.l04Name (93) -/
def spec_l04Name (C : Comb) (x0 : ByteArray) : C.St :=
  C.call n_spec_l00In [(.int .i64 (x0.size : Int)), (.int .i64 1), (.int .i64 24)] [.bool] fun r5 =>
  C.ret (.bool r5)
theorem spec_l04Name_eq (C : Comb) (x0 : ByteArray) : fT C Tryz.prog { loop := [], join := [], anyOrder := [], pure := [] } n_spec_l04Name [(.string x0)] = spec_l04Name C x0 := by kernel_rfl
theorem spec_l04Name_calls {R : Value → World → Prop} {w : World} (x0 : ByteArray) (h : (spec_l04Name (real Tryz.prog R) x0 : World → Prop) w) :
    Calls Tryz.prog n_spec_l04Name [(.string x0)].toArray w fun e w' => ∃ v, e = .returned v ∧ R v w' := fT_sound mixed { loop := [], join := [], anyOrder := [], pure := [] } (by rw [spec_l04Name_eq]; exact h)

/-- spec.l08Get (94) -/
def spec_l08Get (C : Comb) (x0 : Addr) (x1 : Array Value) (x2 : ByteArray) : C.St :=
  C.new ty_impl_Key (.agg x1) fun b4 =>
  C.new ty_impl_Key (.agg (Array.replicate 32 (.int .u8 0))) fun b7 =>
  C.ld .agg 32 (Addr.mk b4 0 none) fun v14 =>
  C.call n_spec_l08Path [(.pointer (some x0)), (.agg v14), (.string x2)] [.slice, .agg, (.int .i64)] fun r16 =>
  C.new ty_impl_Key (.agg (Array.replicate 32 (.int .u8 0))) fun b10 =>
  C.st 32 (Addr.mk b10 0 none) (.agg r16.2.1) <|
  cond (r16.2.2 != 0) (
    C.draw <|
    C.ld .agg 32 (Addr.mk b10 0 none) fun v22 =>
    C.st 32 (Addr.mk b7 0 none) (.agg v22) <|
    C.ld .agg 32 (Addr.mk b7 0 none) fun z7 =>
    C.ret (.tuple #[(.string (⟨#[]⟩ : ByteArray)), (.agg z7), (.int .i64 r16.2.2)])
  ) (
    C.join (TL []) (embL []) (fun s13 => C.any fun _ =>
        C.ix r16.1.a r16.1.n 66 (IntKind.wrap .i64 ((r16.1.n : Int) - 1)) fun p44 =>
        C.ld .str 1 ((p44.add 64).add 1) fun v47 =>
        C.st 32 (Addr.mk b7 0 none) (.agg (Array.replicate 32 (.int .u8 0))) <|
        C.ld .agg 32 (Addr.mk b7 0 none) fun z16 =>
        C.ret (.tuple #[(.string v47), (.agg z16), (.int .i64 0)])
      ) fun jt =>
    cond ((r16.1.n : Int) == 0) (
      C.st 32 (Addr.mk b7 0 none) (.agg (Array.replicate 32 (.int .u8 0))) <|
      C.ld .agg 32 (Addr.mk b7 0 none) fun z8 =>
      C.ret (.tuple #[(.string (⟨#[]⟩ : ByteArray)), (.agg z8), (.int .i64 6)])
    ) (
      C.ix r16.1.a r16.1.n 66 (IntKind.wrap .i64 ((r16.1.n : Int) - 1)) fun p32 =>
      C.ld .str 1 ((p32.add 64).add 0) fun v35 =>
      C.pur (eqB .neq ty_string (.tmp 35) (.tmp 36) (.string v35) (.string x2)) .bool fun y37 =>
      cond y37 (
        C.st 32 (Addr.mk b7 0 none) (.agg (Array.replicate 32 (.int .u8 0))) <|
        C.ld .agg 32 (Addr.mk b7 0 none) fun z12 =>
        C.ret (.tuple #[(.string (⟨#[]⟩ : ByteArray)), (.agg z12), (.int .i64 6)])
      ) (
        jt []
      )
    )
  )
theorem spec_l08Get_eq (C : Comb) (x0 : Addr) (x1 : Array Value) (x2 : ByteArray) : fT C Tryz.prog { loop := [], join := [(114, [])], anyOrder := [3], pure := [] } n_spec_l08Get [(.pointer (some x0)), (.agg x1), (.string x2)] = spec_l08Get C x0 x1 x2 := by kernel_rfl
theorem spec_l08Get_calls {R : Value → World → Prop} {w : World} (x0 : Addr) (x1 : Array Value) (x2 : ByteArray) (h : (spec_l08Get (real Tryz.prog R) x0 x1 x2 : World → Prop) w) :
    Calls Tryz.prog n_spec_l08Get [(.pointer (some x0)), (.agg x1), (.string x2)].toArray w fun e w' => ∃ v, e = .returned v ∧ R v w' := fT_sound mixed { loop := [], join := [(114, [])], anyOrder := [3], pure := [] } (by rw [spec_l08Get_eq]; exact h)

/-- impl.isName (95) -/
def impl_isName (C : Comb) (x0 : ByteArray) : C.St :=
  C.call n_impl_within [(.int .i64 (x0.size : Int)), (.int .i64 1), (.int .i64 24)] [.bool] fun r5 =>
  C.ret (.bool r5)
theorem impl_isName_eq (C : Comb) (x0 : ByteArray) : fT C Tryz.prog { loop := [], join := [], anyOrder := [], pure := [] } n_impl_isName [(.string x0)] = impl_isName C x0 := by kernel_rfl
theorem impl_isName_calls {R : Value → World → Prop} {w : World} (x0 : ByteArray) (h : (impl_isName (real Tryz.prog R) x0 : World → Prop) w) :
    Calls Tryz.prog n_impl_isName [(.string x0)].toArray w fun e w' => ∃ v, e = .returned v ∧ R v w' := fT_sound mixed { loop := [], join := [], anyOrder := [], pure := [] } (by rw [impl_isName_eq]; exact h)

/-- (*impl.shop).partial (96) -/
def ptr_impl_shop_partial (C : Comb) (x0 : Addr) (x1 : Array Value) (x2 : ByteArray) : C.St :=
  C.new ty_impl_Key (.agg x1) fun b4 =>
  C.new ty_impl_Key (.agg (Array.replicate 32 (.int .u8 0))) fun b7 =>
  C.call n_impl_copyMapper [(.pointer (some x0))] [.ptr] fun r14 =>
  C.ld .agg 32 (Addr.mk b4 0 none) fun v17 =>
  C.call n_ptr_impl_mapper_descend [(.pointer (some r14)), (.agg v17), (.string x2)] [.slice, (.int .i64)] fun r19 =>
  cond (r19.2 != 0) (
    C.draw <|
    C.ld .agg 32 (r14.add 35) fun v27 =>
    C.st 32 (Addr.mk b7 0 none) (.agg v27) <|
    C.ld .agg 32 (Addr.mk b7 0 none) fun z7 =>
    C.ret (.tuple #[(.string (⟨#[]⟩ : ByteArray)), (.agg z7), (.int .i64 r19.2)])
  ) (
    C.join (TL [.bool]) (embL [.bool]) (fun s11 => C.any fun _ =>
        cond s11 (
          C.ix r19.1.a r19.1.n 66 (IntKind.wrap .i64 ((r19.1.n : Int) - 1)) fun p47 =>
          C.ld .str 1 ((p47.add 64).add 1) fun v50 =>
          C.st 32 (Addr.mk b7 0 none) (.agg (Array.replicate 32 (.int .u8 0))) <|
          C.ld .agg 32 (Addr.mk b7 0 none) fun z14 =>
          C.ret (.tuple #[(.string v50), (.agg z14), (.int .i64 0)])
        ) (
          C.st 32 (Addr.mk b7 0 none) (.agg (Array.replicate 32 (.int .u8 0))) <|
          C.ld .agg 32 (Addr.mk b7 0 none) fun z15 =>
          C.ret (.tuple #[(.string (⟨#[]⟩ : ByteArray)), (.agg z15), (.int .i64 6)])
        )
      ) fun jt =>
    cond (decide ((r19.1.n : Int) > 0)) (
      C.ix r19.1.a r19.1.n 66 (IntKind.wrap .i64 ((r19.1.n : Int) - 1)) fun p37 =>
      C.ld .str 1 ((p37.add 64).add 0) fun v40 =>
      C.pur (eqB .eql ty_string (.tmp 40) (.tmp 41) (.string v40) (.string x2)) .bool fun y42 =>
      jt [(.bool y42)]
    ) (
      jt [(.bool false)]
    )
  )
theorem ptr_impl_shop_partial_eq (C : Comb) (x0 : Addr) (x1 : Array Value) (x2 : ByteArray) : fT C Tryz.prog { loop := [], join := [(19, [(43, .bool)])], anyOrder := [4], pure := [] } n_ptr_impl_shop_partial [(.pointer (some x0)), (.agg x1), (.string x2)] = ptr_impl_shop_partial C x0 x1 x2 := by kernel_rfl
theorem ptr_impl_shop_partial_calls {R : Value → World → Prop} {w : World} (x0 : Addr) (x1 : Array Value) (x2 : ByteArray) (h : (ptr_impl_shop_partial (real Tryz.prog R) x0 x1 x2 : World → Prop) w) :
    Calls Tryz.prog n_ptr_impl_shop_partial [(.pointer (some x0)), (.agg x1), (.string x2)].toArray w fun e w' => ∃ v, e = .returned v ∧ R v w' := fT_sound mixed { loop := [], join := [(19, [(43, .bool)])], anyOrder := [4], pure := [] } (by rw [ptr_impl_shop_partial_eq]; exact h)

/-- (*spec.l08Walk).tree (97) -/
def ptr_spec_l08Walk_tree (C : Comb) (x0 : Addr) (x1 : Array Value) : C.St :=
  C.new ty_impl_Key (.agg x1) fun b3 =>
  C.join (TL []) (embL []) (fun s9 => C.any fun _ =>
      C.join (TL [.ptr, (.int .i64)]) (embL [.ptr, (.int .i64)]) (fun s16 => C.any fun _ =>
          C.join (TL [(.int .i64)]) (embL [(.int .i64)]) (fun s19 => C.any fun _ =>
              cond (s19 != 0) (
                C.st 1 (x0.add 37) (.int .i64 s19) <|
                cond (s19 == 4) (
                  C.ld .agg 32 (Addr.mk b3 0 none) fun v49 =>
                  C.st 32 (x0.add 5) (.agg v49) <|
                  C.ret (.tuple #[])
                ) (
                  C.ret (.tuple #[])
                )
              ) (
                C.ld .str 1 ((s16.1.add 64).add 0) fun v54 =>
                C.join (TL []) (embL []) (fun s26 => C.any fun _ =>
                    C.join (TL []) (embL []) (fun s36 => C.any fun _ =>
                        C.ld .str 1 (x0.add 2) fun v94 =>
                        C.pur (eqB .lss ty_string (.tmp 90) (.tmp 94) (.string v54) (.string v94)) .bool fun y95 =>
                        cond y95 (
                          C.ld .agg 32 (s16.1.add 32) fun v98 =>
                          C.call n_ptr_spec_l08Walk_tree [(.pointer (some x0)), (.agg v98)] [] fun r99 =>
                          C.ret (.tuple #[])
                        ) (
                          C.ret (.tuple #[])
                        )
                      ) fun jt =>
                    C.join (TL [.bool]) (embL [.bool]) (fun s31 => C.any fun _ =>
                        cond s31 (
                          C.draw <|
                          C.ld .slice 1 (x0.add 3) fun v83 =>
                          C.ld .agg 2 (s16.1.add 64) fun v85 =>
                          C.sem (Instr.buildSlice ty_sl_impl_Entry 1 #[(0, (.agg v85))]) .slice fun y86 =>
                          C.chk [⟨4, 1, (x0.add 3), .slice, v83⟩] <|
                          C.sem (Builtin.append_ #[ty_sl_impl_Entry, ty_sl_impl_Entry] ty_sl_impl_Entry #[(.slice v83.a v83.n v83.c), (.slice y86.a y86.n y86.c)]) .slice fun y87 =>
                          C.st 1 (x0.add 3) (.slice y87.a y87.n y87.c) <|
                          jt []
                        ) (
                          jt []
                        )
                      ) fun jt1 =>
                    C.ld .str 1 (x0.add 1) fun v69 =>
                    C.pur (eqB .geq ty_string (.tmp 65) (.tmp 69) (.string v54) (.string v69)) .bool fun y70 =>
                    cond y70 (
                      C.ld .str 1 (x0.add 2) fun v76 =>
                      C.pur (eqB .lss ty_string (.tmp 72) (.tmp 76) (.string v54) (.string v76)) .bool fun y77 =>
                      jt1 [(.bool y77)]
                    ) (
                      jt1 [(.bool false)]
                    )
                  ) fun jt =>
                C.ld .str 1 (x0.add 1) fun v59 =>
                C.pur (eqB .gtr ty_string (.tmp 55) (.tmp 59) (.string v54) (.string v59)) .bool fun y60 =>
                cond y60 (
                  C.ld .agg 32 (s16.1.add 0) fun v63 =>
                  C.call n_ptr_spec_l08Walk_tree [(.pointer (some x0)), (.agg v63)] [] fun r64 =>
                  jt []
                ) (
                  jt []
                )
              )
            ) fun jt =>
          cond (s16.2 == 0) (
            C.ld (.int .i64) 1 (x0.add 4) fun v31 =>
            C.st 1 (x0.add 4) (.int .i64 (IntKind.wrap .i64 (v31 + 1))) <|
            C.ld (.int .i64) 1 (x0.add 4) fun v38 =>
            cond (decide (v38 > 64)) (
              jt [(.int .i64 8)]
            ) (
              jt [(.int .i64 s16.2)]
            )
          ) (
            jt [(.int .i64 s16.2)]
          )
        ) fun jt =>
      C.draw <|
      C.ld .ptr 1 (x0.add 0) fun v21 =>
      C.ld .agg 32 (Addr.mk b3 0 none) fun v22 =>
      C.all [
        (C.call n_spec_l08Node [(.pointer (some v21)), (.agg v22)] [.agg, (.int .i64)] fun r23 =>
         C.new ty_impl_MapNode (.agg (#[(.int .u8 0), (.int .u8 0), (.int .u8 0), (.int .u8 0), (.int .u8 0), (.int .u8 0), (.int .u8 0), (.int .u8 0), (.int .u8 0), (.int .u8 0), (.int .u8 0), (.int .u8 0), (.int .u8 0), (.int .u8 0), (.int .u8 0), (.int .u8 0), (.int .u8 0), (.int .u8 0), (.int .u8 0), (.int .u8 0), (.int .u8 0), (.int .u8 0), (.int .u8 0), (.int .u8 0), (.int .u8 0), (.int .u8 0), (.int .u8 0), (.int .u8 0), (.int .u8 0), (.int .u8 0), (.int .u8 0), (.int .u8 0), (.int .u8 0), (.int .u8 0), (.int .u8 0), (.int .u8 0), (.int .u8 0), (.int .u8 0), (.int .u8 0), (.int .u8 0), (.int .u8 0), (.int .u8 0), (.int .u8 0), (.int .u8 0), (.int .u8 0), (.int .u8 0), (.int .u8 0), (.int .u8 0), (.int .u8 0), (.int .u8 0), (.int .u8 0), (.int .u8 0), (.int .u8 0), (.int .u8 0), (.int .u8 0), (.int .u8 0), (.int .u8 0), (.int .u8 0), (.int .u8 0), (.int .u8 0), (.int .u8 0), (.int .u8 0), (.int .u8 0), (.int .u8 0), (.string (⟨#[]⟩ : ByteArray)), (.string (⟨#[]⟩ : ByteArray))])) fun b4 =>
         C.st 66 (Addr.mk b4 0 none) (.agg r23.1) <|
         jt [(.pointer (some (Addr.mk b4 0 none))), (.int .i64 r23.2)]),
        (C.new ty_impl_MapNode (.agg (#[(.int .u8 0), (.int .u8 0), (.int .u8 0), (.int .u8 0), (.int .u8 0), (.int .u8 0), (.int .u8 0), (.int .u8 0), (.int .u8 0), (.int .u8 0), (.int .u8 0), (.int .u8 0), (.int .u8 0), (.int .u8 0), (.int .u8 0), (.int .u8 0), (.int .u8 0), (.int .u8 0), (.int .u8 0), (.int .u8 0), (.int .u8 0), (.int .u8 0), (.int .u8 0), (.int .u8 0), (.int .u8 0), (.int .u8 0), (.int .u8 0), (.int .u8 0), (.int .u8 0), (.int .u8 0), (.int .u8 0), (.int .u8 0), (.int .u8 0), (.int .u8 0), (.int .u8 0), (.int .u8 0), (.int .u8 0), (.int .u8 0), (.int .u8 0), (.int .u8 0), (.int .u8 0), (.int .u8 0), (.int .u8 0), (.int .u8 0), (.int .u8 0), (.int .u8 0), (.int .u8 0), (.int .u8 0), (.int .u8 0), (.int .u8 0), (.int .u8 0), (.int .u8 0), (.int .u8 0), (.int .u8 0), (.int .u8 0), (.int .u8 0), (.int .u8 0), (.int .u8 0), (.int .u8 0), (.int .u8 0), (.int .u8 0), (.int .u8 0), (.int .u8 0), (.int .u8 0), (.string (⟨#[]⟩ : ByteArray)), (.string (⟨#[]⟩ : ByteArray))])) fun b4 =>
         C.chk [⟨4, 32, (Addr.mk b3 0 none), .agg, v22⟩, ⟨3, 1, (x0.add 0), .ptr, v21⟩] <|
         C.call n_spec_l08Node [(.pointer (some v21)), (.agg v22)] [.agg, (.int .i64)] fun r23 =>
         C.st 66 (Addr.mk b4 0 none) (.agg r23.1) <|
         jt [(.pointer (some (Addr.mk b4 0 none))), (.int .i64 r23.2)])]
    ) fun jt =>
  C.draw <|
  C.ld (.int .i64) 1 (x0.add 37) fun v10 =>
  C.all [
    (cond (v10 != 0) (
       C.chk [⟨3, 1, (x0.add 37), (.int .i64), v10⟩] <|
       C.chk [⟨3, 1, (x0.add 37), (.int .i64), v10⟩] <|
       C.ret (.tuple #[])
     ) (
       C.ld .agg 32 (Addr.mk b3 0 none) fun v13 =>
       C.chk [⟨3, 1, (x0.add 37), (.int .i64), v10⟩] <|
       C.call n_spec_l04Empty [] [.agg] fun r14 =>
       C.chk [⟨3, 1, (x0.add 37), (.int .i64), v10⟩] <|
       C.pur (eqB .eql ty_impl_Key (.tmp 13) (.tmp 14) (.agg v13) (.agg r14)) .bool fun y15 =>
       cond y15 (
         C.ret (.tuple #[])
       ) (
         jt []
       )
     )),
    (cond (v10 != 0) (
       C.chk [⟨3, 1, (x0.add 37), (.int .i64), v10⟩] <|
       C.chk [⟨3, 1, (x0.add 37), (.int .i64), v10⟩] <|
       C.ret (.tuple #[])
     ) (
       C.call n_spec_l04Empty [] [.agg] fun r14 =>
       C.chk [⟨3, 1, (x0.add 37), (.int .i64), v10⟩] <|
       C.ld .agg 32 (Addr.mk b3 0 none) fun v13 =>
       C.chk [⟨3, 1, (x0.add 37), (.int .i64), v10⟩] <|
       C.pur (eqB .eql ty_impl_Key (.tmp 13) (.tmp 14) (.agg v13) (.agg r14)) .bool fun y15 =>
       cond y15 (
         C.ret (.tuple #[])
       ) (
         jt []
       )
     ))]
theorem ptr_spec_l08Walk_tree_eq (C : Comb) (x0 : Addr) (x1 : Array Value) : fT C Tryz.prog { loop := [], join := [(48, []), (7, [(4, .ptr), (5, (.int .i64))]), (81, [(5, (.int .i64))]), (180, []), (43, [(78, .bool)]), (234, [])], anyOrder := [1, 2, 15], pure := [] } n_ptr_spec_l08Walk_tree [(.pointer (some x0)), (.agg x1)] = ptr_spec_l08Walk_tree C x0 x1 := by kernel_rfl
theorem ptr_spec_l08Walk_tree_calls {R : Value → World → Prop} {w : World} (x0 : Addr) (x1 : Array Value) (h : (ptr_spec_l08Walk_tree (real Tryz.prog R) x0 x1 : World → Prop) w) :
    Calls Tryz.prog n_ptr_spec_l08Walk_tree [(.pointer (some x0)), (.agg x1)].toArray w fun e w' => ∃ v, e = .returned v ∧ R v w' := fT_sound mixed { loop := [], join := [(48, []), (7, [(4, .ptr), (5, (.int .i64))]), (81, [(5, (.int .i64))]), (180, []), (43, [(78, .bool)]), (234, [])], anyOrder := [1, 2, 15], pure := [] } (by rw [ptr_spec_l08Walk_tree_eq]; exact h)

/-- impl.copyMapper (98) -/
def impl_copyMapper (C : Comb) (x0 : Addr) : C.St :=
  C.call n_impl_newMapper [(.pointer (some x0))] [.ptr] fun r5 =>
  C.st 1 (r5.add 34) (.bool true) <|
  C.ret (.pointer (some r5))
theorem impl_copyMapper_eq (C : Comb) (x0 : Addr) : fT C Tryz.prog { loop := [], join := [], anyOrder := [], pure := [] } n_impl_copyMapper [(.pointer (some x0))] = impl_copyMapper C x0 := by kernel_rfl
theorem impl_copyMapper_calls {R : Value → World → Prop} {w : World} (x0 : Addr) (h : (impl_copyMapper (real Tryz.prog R) x0 : World → Prop) w) :
    Calls Tryz.prog n_impl_copyMapper [(.pointer (some x0))].toArray w fun e w' => ∃ v, e = .returned v ∧ R v w' := fT_sound mixed { loop := [], join := [], anyOrder := [], pure := [] } (by rw [impl_copyMapper_eq]; exact h)

/-- (*impl.mapper).walk (99) -/
def ptr_impl_mapper_walk (C : Comb) (x0 : Addr) (x1 : Array Value) (x2 : Option Addr) (x3 : Option Addr) (x4 : Value) (x5 : Value) (x6 : Value) (x7 : Value) : C.St :=
  C.new ty_impl_Key (.agg x1) fun b9 =>
  C.draw <|
  C.ld .agg 32 (Addr.mk b9 0 none) fun v21 =>
  C.ld .agg 32 (x0.add 1) fun v25 =>
  C.pur (eqB .eql ty_impl_Key (.tmp 21) (.tmp 25) (.agg v21) (.agg v25)) .bool fun y26 =>
  cond y26 (
    C.ret (.int .i64 0)
  ) (
    C.ld .agg 32 (Addr.mk b9 0 none) fun v29 =>
    C.call n_ptr_impl_mapper_node [(.pointer (some x0)), (.agg v29), (.pointer x2), (.pointer x3)] [.agg, (.int .i64)] fun r32 =>
    C.new ty_impl_MapNode (.agg (#[(.int .u8 0), (.int .u8 0), (.int .u8 0), (.int .u8 0), (.int .u8 0), (.int .u8 0), (.int .u8 0), (.int .u8 0), (.int .u8 0), (.int .u8 0), (.int .u8 0), (.int .u8 0), (.int .u8 0), (.int .u8 0), (.int .u8 0), (.int .u8 0), (.int .u8 0), (.int .u8 0), (.int .u8 0), (.int .u8 0), (.int .u8 0), (.int .u8 0), (.int .u8 0), (.int .u8 0), (.int .u8 0), (.int .u8 0), (.int .u8 0), (.int .u8 0), (.int .u8 0), (.int .u8 0), (.int .u8 0), (.int .u8 0), (.int .u8 0), (.int .u8 0), (.int .u8 0), (.int .u8 0), (.int .u8 0), (.int .u8 0), (.int .u8 0), (.int .u8 0), (.int .u8 0), (.int .u8 0), (.int .u8 0), (.int .u8 0), (.int .u8 0), (.int .u8 0), (.int .u8 0), (.int .u8 0), (.int .u8 0), (.int .u8 0), (.int .u8 0), (.int .u8 0), (.int .u8 0), (.int .u8 0), (.int .u8 0), (.int .u8 0), (.int .u8 0), (.int .u8 0), (.int .u8 0), (.int .u8 0), (.int .u8 0), (.int .u8 0), (.int .u8 0), (.int .u8 0), (.string (⟨#[]⟩ : ByteArray)), (.string (⟨#[]⟩ : ByteArray))])) fun b17 =>
    C.st 66 (Addr.mk b17 0 none) (.agg r32.1) <|
    cond (r32.2 != 0) (
      C.ret (.int .i64 r32.2)
    ) (
      C.ld .str 1 (((Addr.mk b17 0 none).add 64).add 0) fun v40 =>
      C.new ty_string (.string (⟨#[]⟩)) fun b19 =>
      C.st 1 (Addr.mk b19 0 none) (.string v40) <|
      C.ld .agg 66 (Addr.mk b17 0 none) fun v42 =>
      C.callV x6 [(.agg v42)] [] fun r43 =>
      C.join (TL []) (embL []) (fun s16 => C.any fun _ =>
          C.ld .agg 2 ((Addr.mk b17 0 none).add 64) fun v61 =>
          C.callV x7 [(.agg v61)] [] fun r62 =>
          C.ld .str 1 (Addr.mk b19 0 none) fun v64 =>
          C.callV x5 [(.string v64)] [.bool] fun r65 =>
          cond r65 (
            C.ld .agg 32 ((Addr.mk b17 0 none).add 32) fun v68 =>
            C.call n_ptr_impl_mapper_walk [(.pointer (some x0)), (.agg v68), (.pointer (some (Addr.mk b19 0 none))), (.pointer x3), x4, x5, x6, x7] [(.int .i64)] fun r74 =>
            C.ret (.int .i64 r74)
          ) (
            C.ret (.int .i64 0)
          )
        ) fun jt =>
      C.ld .str 1 (Addr.mk b19 0 none) fun v45 =>
      C.callV x4 [(.string v45)] [.bool] fun r46 =>
      cond r46 (
        C.ld .agg 32 ((Addr.mk b17 0 none).add 0) fun v49 =>
        C.call n_ptr_impl_mapper_walk [(.pointer (some x0)), (.agg v49), (.pointer x2), (.pointer (some (Addr.mk b19 0 none))), x4, x5, x6, x7] [(.int .i64)] fun r55 =>
        cond (r55 != 0) (
          C.ret (.int .i64 r55)
        ) (
          jt []
        )
      ) (
        jt []
      )
    )
  )
theorem ptr_impl_mapper_walk_eq (C : Comb) (x0 : Addr) (x1 : Array Value) (x2 : Option Addr) (x3 : Option Addr) (x4 : Value) (x5 : Value) (x6 : Value) (x7 : Value) : fT C Tryz.prog { loop := [], join := [(138, [])], anyOrder := [], pure := [] } n_ptr_impl_mapper_walk [(.pointer (some x0)), (.agg x1), (.pointer x2), (.pointer x3), x4, x5, x6, x7] = ptr_impl_mapper_walk C x0 x1 x2 x3 x4 x5 x6 x7 := by kernel_rfl
theorem ptr_impl_mapper_walk_calls {R : Value → World → Prop} {w : World} (x0 : Addr) (x1 : Array Value) (x2 : Option Addr) (x3 : Option Addr) (x4 : Value) (x5 : Value) (x6 : Value) (x7 : Value) (h : (ptr_impl_mapper_walk (real Tryz.prog R) x0 x1 x2 x3 x4 x5 x6 x7 : World → Prop) w) :
    Calls Tryz.prog n_ptr_impl_mapper_walk [(.pointer (some x0)), (.agg x1), (.pointer x2), (.pointer x3), x4, x5, x6, x7].toArray w fun e w' => ∃ v, e = .returned v ∧ R v w' := fT_sound mixed { loop := [], join := [(138, [])], anyOrder := [], pure := [] } (by rw [ptr_impl_mapper_walk_eq]; exact h)

/-- impl.RangePartial$1 (100) -/
def impl_RangePartial_1 (C : Comb) (x0 : ByteArray) (x1 : Addr) : C.St :=
  C.ld .str 1 x1 fun v5 =>
  C.pur (eqB .gtr ty_string (.tmp 4) (.tmp 5) (.string x0) (.string v5)) .bool fun y6 =>
  C.ret (.bool y6)
theorem impl_RangePartial_1_eq (C : Comb) (x0 : ByteArray) (x1 : Addr) : fT C Tryz.prog { loop := [], join := [], anyOrder := [], pure := [] } n_impl_RangePartial_1 [(.string x0), (.pointer (some x1))] = impl_RangePartial_1 C x0 x1 := by kernel_rfl
theorem impl_RangePartial_1_calls {R : Value → World → Prop} {w : World} (x0 : ByteArray) (x1 : Addr) (h : (impl_RangePartial_1 (real Tryz.prog R) x0 x1 : World → Prop) w) :
    Calls Tryz.prog n_impl_RangePartial_1 [(.string x0), (.pointer (some x1))].toArray w fun e w' => ∃ v, e = .returned v ∧ R v w' := fT_sound mixed { loop := [], join := [], anyOrder := [], pure := [] } (by rw [impl_RangePartial_1_eq]; exact h)

/-- impl.RangePartial$2 (101) -/
def impl_RangePartial_2 (C : Comb) (x0 : ByteArray) (x1 : Addr) : C.St :=
  C.ld .str 1 x1 fun v5 =>
  C.pur (eqB .lss ty_string (.tmp 4) (.tmp 5) (.string x0) (.string v5)) .bool fun y6 =>
  C.ret (.bool y6)
theorem impl_RangePartial_2_eq (C : Comb) (x0 : ByteArray) (x1 : Addr) : fT C Tryz.prog { loop := [], join := [], anyOrder := [], pure := [] } n_impl_RangePartial_2 [(.string x0), (.pointer (some x1))] = impl_RangePartial_2 C x0 x1 := by kernel_rfl
theorem impl_RangePartial_2_calls {R : Value → World → Prop} {w : World} (x0 : ByteArray) (x1 : Addr) (h : (impl_RangePartial_2 (real Tryz.prog R) x0 x1 : World → Prop) w) :
    Calls Tryz.prog n_impl_RangePartial_2 [(.string x0), (.pointer (some x1))].toArray w fun e w' => ∃ v, e = .returned v ∧ R v w' := fT_sound mixed { loop := [], join := [], anyOrder := [], pure := [] } (by rw [impl_RangePartial_2_eq]; exact h)

/-- impl.RangePartial$3 (102) -/
def impl_RangePartial_3 (C : Comb) (x0 : Array Value) : C.St :=
  C.new ty_impl_MapNode (.agg x0) fun b1 =>
  C.ret (.tuple #[])
theorem impl_RangePartial_3_eq (C : Comb) (x0 : Array Value) : fT C Tryz.prog { loop := [], join := [], anyOrder := [], pure := [] } n_impl_RangePartial_3 [(.agg x0)] = impl_RangePartial_3 C x0 := by kernel_rfl
theorem impl_RangePartial_3_calls {R : Value → World → Prop} {w : World} (x0 : Array Value) (h : (impl_RangePartial_3 (real Tryz.prog R) x0 : World → Prop) w) :
    Calls Tryz.prog n_impl_RangePartial_3 [(.agg x0)].toArray w fun e w' => ∃ v, e = .returned v ∧ R v w' := fT_sound mixed { loop := [], join := [], anyOrder := [], pure := [] } (by rw [impl_RangePartial_3_eq]; exact h)

/-- impl.RangePartial$4 (103) -/
def impl_RangePartial_4 (C : Comb) (x0 : Array Value) (x1 : Addr) (x2 : Addr) (x3 : Addr) : C.St :=
  C.new ty_impl_Entry (.agg x0) fun b4 =>
  C.ld .str 1 ((Addr.mk b4 0 none).add 0) fun v6 =>
  C.ld .str 1 x1 fun v7 =>
  C.pur (eqB .geq ty_string (.tmp 6) (.tmp 7) (.string v6) (.string v7)) .bool fun y8 =>
  cond y8 (
    C.ld .str 1 ((Addr.mk b4 0 none).add 0) fun v11 =>
    C.ld .str 1 x2 fun v12 =>
    C.pur (eqB .lss ty_string (.tmp 11) (.tmp 12) (.string v11) (.string v12)) .bool fun y13 =>
    cond y13 (
      C.ld .slice 1 x3 fun v15 =>
      C.ld .agg 2 (Addr.mk b4 0 none) fun v16 =>
      C.sem (Instr.buildSlice ty_sl_impl_Entry 1 #[(0, (.agg v16))]) .slice fun y17 =>
      C.sem (Builtin.append_ #[ty_sl_impl_Entry, ty_sl_impl_Entry] ty_sl_impl_Entry #[(.slice v15.a v15.n v15.c), (.slice y17.a y17.n y17.c)]) .slice fun y18 =>
      C.st 1 x3 (.slice y18.a y18.n y18.c) <|
      C.ret (.tuple #[])
    ) (
      C.ret (.tuple #[])
    )
  ) (
    C.ret (.tuple #[])
  )
theorem impl_RangePartial_4_eq (C : Comb) (x0 : Array Value) (x1 : Addr) (x2 : Addr) (x3 : Addr) : fT C Tryz.prog { loop := [], join := [], anyOrder := [], pure := [] } n_impl_RangePartial_4 [(.agg x0), (.pointer (some x1)), (.pointer (some x2)), (.pointer (some x3))] = impl_RangePartial_4 C x0 x1 x2 x3 := by kernel_rfl
theorem impl_RangePartial_4_calls {R : Value → World → Prop} {w : World} (x0 : Array Value) (x1 : Addr) (x2 : Addr) (x3 : Addr) (h : (impl_RangePartial_4 (real Tryz.prog R) x0 x1 x2 x3 : World → Prop) w) :
    Calls Tryz.prog n_impl_RangePartial_4 [(.agg x0), (.pointer (some x1)), (.pointer (some x2)), (.pointer (some x3))].toArray w fun e w' => ∃ v, e = .returned v ∧ R v w' := fT_sound mixed { loop := [], join := [], anyOrder := [], pure := [] } (by rw [impl_RangePartial_4_eq]; exact h)

/-- impl.toldCode (104) -/
def impl_toldCode (C : Comb) (x0 : Int) : C.St :=
  cond (x0 == 6) (
    C.ret (.int .i64 4)
  ) (
    C.ret (.int .i64 x0)
  )
theorem impl_toldCode_eq (C : Comb) (x0 : Int) : fT C Tryz.prog { loop := [], join := [], anyOrder := [], pure := [] } n_impl_toldCode [(.int .i64 x0)] = impl_toldCode C x0 := by kernel_rfl
theorem impl_toldCode_calls {R : Value → World → Prop} {w : World} (x0 : Int) (h : (impl_toldCode (real Tryz.prog R) x0 : World → Prop) w) :
    Calls Tryz.prog n_impl_toldCode [(.int .i64 x0)].toArray w fun e w' => ∃ v, e = .returned v ∧ R v w' := fT_sound mixed { loop := [], join := [], anyOrder := [], pure := [] } (by rw [impl_toldCode_eq]; exact h)

/-- laws.szBlob (105) -/
def laws_szBlob (C : Comb) (x0 : Array Value) (x1 : Int) : C.St :=
  C.new ty_laws_Blob (.agg x0) fun b2 =>
  C.ld .slice 1 ((Addr.mk b2 0 none).add 1) fun v6 =>
  C.call n_laws_szByteS [(.slice v6.a v6.n v6.c), (.int .i64 x1)] [(.int .i64)] fun r8 =>
  cond (decide (r8 < 0)) (
    C.ret (.int .i64 (-1))
  ) (
    C.ret (.int .i64 r8)
  )
theorem laws_szBlob_eq (C : Comb) (x0 : Array Value) (x1 : Int) : fT C Tryz.prog { loop := [], join := [], anyOrder := [], pure := [] } n_laws_szBlob [(.agg x0), (.int .i64 x1)] = laws_szBlob C x0 x1 := by kernel_rfl
theorem laws_szBlob_calls {R : Value → World → Prop} {w : World} (x0 : Array Value) (x1 : Int) (h : (laws_szBlob (real Tryz.prog R) x0 x1 : World → Prop) w) :
    Calls Tryz.prog n_laws_szBlob [(.agg x0), (.int .i64 x1)].toArray w fun e w' => ∃ v, e = .returned v ∧ R v w' := fT_sound mixed { loop := [], join := [], anyOrder := [], pure := [] } (by rw [laws_szBlob_eq]; exact h)

/-- spec.l05Blob (106) -/
def spec_l05Blob (C : Comb) (x0 : Addr) : C.St :=
  C.ld .slice 1 (x0.add 1) fun v6 =>
  C.ret (.bool (decide ((v6.n : Int) ≤ 1024)))
theorem spec_l05Blob_eq (C : Comb) (x0 : Addr) : fT C Tryz.prog { loop := [], join := [], anyOrder := [], pure := [] } n_spec_l05Blob [(.pointer (some x0))] = spec_l05Blob C x0 := by kernel_rfl
theorem spec_l05Blob_calls {R : Value → World → Prop} {w : World} (x0 : Addr) (h : (spec_l05Blob (real Tryz.prog R) x0 : World → Prop) w) :
    Calls Tryz.prog n_spec_l05Blob [(.pointer (some x0))].toArray w fun e w' => ∃ v, e = .returned v ∧ R v w' := fT_sound mixed { loop := [], join := [], anyOrder := [], pure := [] } (by rw [spec_l05Blob_eq]; exact h)

/-- spec.l05Key (107) -/
def spec_l05Key (C : Comb) (x0 : Addr) : C.St :=
  C.new ty_impl_Key (.agg (Array.replicate 32 (.int .u8 0))) fun b2 =>
  C.draw <|
  C.ld (.int .u8) 1 (x0.add 0) fun v6 =>
  C.ld .slice 1 (x0.add 1) fun v10 =>
  C.call n_spec_l01Hash [(.int .u8 v6), (.slice v10.a v10.n v10.c)] [.agg] fun r11 =>
  C.st 32 (Addr.mk b2 0 none) (.agg r11) <|
  C.ld .agg 32 (Addr.mk b2 0 none) fun z5 =>
  C.ret (.agg z5)
theorem spec_l05Key_eq (C : Comb) (x0 : Addr) : fT C Tryz.prog { loop := [], join := [], anyOrder := [1], pure := [] } n_spec_l05Key [(.pointer (some x0))] = spec_l05Key C x0 := by kernel_rfl
theorem spec_l05Key_calls {R : Value → World → Prop} {w : World} (x0 : Addr) (h : (spec_l05Key (real Tryz.prog R) x0 : World → Prop) w) :
    Calls Tryz.prog n_spec_l05Key [(.pointer (some x0))].toArray w fun e w' => ∃ v, e = .returned v ∧ R v w' := fT_sound mixed { loop := [], join := [], anyOrder := [1], pure := [] } (by rw [spec_l05Key_eq]; exact h)

/-- spec.l01Compare (108) -/
def spec_l01Compare (C : Comb) (x0 : Array Value) (x1 : Array Value) : C.St :=
  C.new ty_impl_Key (.agg x0) fun b2 =>
  C.new ty_impl_Key (.agg x1) fun b3 =>
  C.loop (TL [(.int .i64)]) (embL [(.int .i64)]) [(.int .i64 0)] fun s3 ct3 => C.any fun _ =>
  cond (decide (s3 < 32)) (
    C.draw <|
    C.ix (some (Addr.mk b2 0 none)) 32 1 s3 fun p11 =>
    C.ld (.int .u8) 1 p11 fun v12 =>
    C.ix (some (Addr.mk b3 0 none)) 32 1 s3 fun p14 =>
    C.ld (.int .u8) 1 p14 fun v15 =>
    cond (v12 != v15) (
      C.draw <|
      C.ix (some (Addr.mk b2 0 none)) 32 1 s3 fun p18 =>
      C.ld (.int .u8) 1 p18 fun v19 =>
      C.ix (some (Addr.mk b3 0 none)) 32 1 s3 fun p21 =>
      C.ld (.int .u8) 1 p21 fun v22 =>
      cond (decide (v19 < v22)) (
        C.ret (.int .i64 (-1))
      ) (
        C.ret (.int .i64 1)
      )
    ) (
      ct3 [(.int .i64 (IntKind.wrap .i64 (s3 + 1)))]
    )
  ) (
    C.ret (.int .i64 0)
  )
theorem spec_l01Compare_eq (C : Comb) (x0 : Array Value) (x1 : Array Value) : fT C Tryz.prog { loop := [(2, [(5, (.int .i64))])], join := [], anyOrder := [], pure := [] } n_spec_l01Compare [(.agg x0), (.agg x1)] = spec_l01Compare C x0 x1 := by kernel_rfl
theorem spec_l01Compare_calls {R : Value → World → Prop} {w : World} (x0 : Array Value) (x1 : Array Value) (h : (spec_l01Compare (real Tryz.prog R) x0 x1 : World → Prop) w) :
    Calls Tryz.prog n_spec_l01Compare [(.agg x0), (.agg x1)].toArray w fun e w' => ∃ v, e = .returned v ∧ R v w' := fT_sound mixed { loop := [(2, [(5, (.int .i64))])], join := [], anyOrder := [], pure := [] } (by rw [spec_l01Compare_eq]; exact h)

/-- (*spec.l05Store).find (109) -/
def ptr_spec_l05Store_find (C : Comb) (x0 : Addr) (x1 : Array Value) : C.St :=
  C.new ty_impl_Key (.agg x1) fun b3 =>
  C.loop (TL [(.int .i64)]) (embL [(.int .i64)]) [(.int .i64 0)] fun s2 ct2 => C.any fun _ =>
  C.ld .slice 1 (x0.add 1) fun v10 =>
  cond (decide (s2 < (v10.n : Int))) (
    C.draw <|
    C.ld .slice 1 (x0.add 1) fun v18 =>
    C.ix v18.a v18.n 32 s2 fun p20 =>
    C.ld .agg 32 p20 fun v21 =>
    C.ld .agg 32 (Addr.mk b3 0 none) fun v22 =>
    C.pur (eqB .eql ty_impl_Key (.tmp 21) (.tmp 22) (.agg v21) (.agg v22)) .bool fun y23 =>
    cond y23 (
      C.ret (.int .i64 s2)
    ) (
      ct2 [(.int .i64 (IntKind.wrap .i64 (s2 + 1)))]
    )
  ) (
    C.ret (.int .i64 (-1))
  )
theorem ptr_spec_l05Store_find_eq (C : Comb) (x0 : Addr) (x1 : Array Value) : fT C Tryz.prog { loop := [(2, [(5, (.int .i64))])], join := [], anyOrder := [], pure := [] } n_ptr_spec_l05Store_find [(.pointer (some x0)), (.agg x1)] = ptr_spec_l05Store_find C x0 x1 := by kernel_rfl
theorem ptr_spec_l05Store_find_calls {R : Value → World → Prop} {w : World} (x0 : Addr) (x1 : Array Value) (h : (ptr_spec_l05Store_find (real Tryz.prog R) x0 x1 : World → Prop) w) :
    Calls Tryz.prog n_ptr_spec_l05Store_find [(.pointer (some x0)), (.agg x1)].toArray w fun e w' => ∃ v, e = .returned v ∧ R v w' := fT_sound mixed { loop := [(2, [(5, (.int .i64))])], join := [], anyOrder := [], pure := [] } (by rw [ptr_spec_l05Store_find_eq]; exact h)

/-- spec.l05Keys (110) -/
def spec_l05Keys (C : Comb) (x0 : Sl) (x1 : Int) (x2 : Int) : C.St :=
  C.sem (Instr.buildSlice ty_sl_impl_Key 0 #[]) .slice fun y11 =>
  C.loop (TL [.slice, (.int .i64)]) (embL [.slice, (.int .i64)]) [(.slice y11.a y11.n y11.c), (.int .i64 0)] fun s2 ct2 => C.any fun _ =>
  cond (decide (s2.2 < x2)) (
    C.new ty_impl_Key (.agg (Array.replicate 32 (.int .u8 0))) fun b9 =>
    C.st 32 (Addr.mk b9 0 none) (.agg (Array.replicate 32 (.int .u8 0))) <|
    C.loop (TL [(.int .i64)]) (embL [(.int .i64)]) [(.int .i64 0)] fun s4 ct4 => C.any fun _ =>
    cond (decide (s4 < 32)) (
      C.ix x0.a x0.n 1 (IntKind.wrap .i64 ((IntKind.wrap .i64 (x1 + (IntKind.wrap .i64 (32 * s2.2)))) + s4)) fun p30 =>
      C.ld (.int .u8) 1 p30 fun v31 =>
      C.ix (some (Addr.mk b9 0 none)) 32 1 s4 fun p32 =>
      C.st 1 p32 (.int .u8 v31) <|
      ct4 [(.int .i64 (IntKind.wrap .i64 (s4 + 1)))]
    ) (
      C.ld .agg 32 (Addr.mk b9 0 none) fun v34 =>
      C.sem (Instr.buildSlice ty_sl_impl_Key 1 #[(0, (.agg v34))]) .slice fun y35 =>
      C.sem (Builtin.append_ #[ty_sl_impl_Key, ty_sl_impl_Key] ty_sl_impl_Key #[(.slice s2.1.a s2.1.n s2.1.c), (.slice y35.a y35.n y35.c)]) .slice fun y36 =>
      ct2 [(.slice y36.a y36.n y36.c), (.int .i64 (IntKind.wrap .i64 (s2.2 + 1)))]
    )
  ) (
    C.ret (.slice s2.1.a s2.1.n s2.1.c)
  )
theorem spec_l05Keys_eq (C : Comb) (x0 : Sl) (x1 : Int) (x2 : Int) : fT C Tryz.prog { loop := [(3, [(7, .slice), (8, (.int .i64))]), (7, [(10, (.int .i64))])], join := [], anyOrder := [], pure := [] } n_spec_l05Keys [(.slice x0.a x0.n x0.c), (.int .i64 x1), (.int .i64 x2)] = spec_l05Keys C x0 x1 x2 := by kernel_rfl
theorem spec_l05Keys_calls {R : Value → World → Prop} {w : World} (x0 : Sl) (x1 : Int) (x2 : Int) (h : (spec_l05Keys (real Tryz.prog R) x0 x1 x2 : World → Prop) w) :
    Calls Tryz.prog n_spec_l05Keys [(.slice x0.a x0.n x0.c), (.int .i64 x1), (.int .i64 x2)].toArray w fun e w' => ∃ v, e = .returned v ∧ R v w' := fT_sound mixed { loop := [(3, [(7, .slice), (8, (.int .i64))]), (7, [(10, (.int .i64))])], join := [], anyOrder := [], pure := [] } (by rw [spec_l05Keys_eq]; exact h)

/-- spec.l03Half (111) -/
def spec_l03Half (C : Comb) (x0 : Int) : C.St :=
  C.loop (TL [(.int .i64)]) (embL [(.int .i64)]) [(.int .i64 1)] fun s1 ct1 => C.any fun _ =>
  cond (decide ((IntKind.wrap .i64 (2 * s1)) < x0)) (
    ct1 [(.int .i64 (IntKind.wrap .i64 (2 * s1)))]
  ) (
    C.ret (.int .i64 s1)
  )
theorem spec_l03Half_eq (C : Comb) (x0 : Int) : fT C Tryz.prog { loop := [(2, [(3, (.int .i64))])], join := [], anyOrder := [], pure := [] } n_spec_l03Half [(.int .i64 x0)] = spec_l03Half C x0 := by kernel_rfl
theorem spec_l03Half_calls {R : Value → World → Prop} {w : World} (x0 : Int) (h : (spec_l03Half (real Tryz.prog R) x0 : World → Prop) w) :
    Calls Tryz.prog n_spec_l03Half [(.int .i64 x0)].toArray w fun e w' => ∃ v, e = .returned v ∧ R v w' := fT_sound mixed { loop := [(2, [(3, (.int .i64))])], join := [], anyOrder := [], pure := [] } (by rw [spec_l03Half_eq]; exact h)

/-- laws.toBlob (112) -/
def laws_toBlob (C : Comb) (x0 : Array Value) : C.St :=
  C.new ty_laws_Blob (.agg x0) fun b1 =>
  C.new ty_impl_Blob (.agg (#[(.int .u8 0), (.slice none 0 0)])) fun b2 =>
  C.new ty_impl_Blob (.agg (#[(.int .u8 0), (.slice none 0 0)])) fun b3 =>
  C.ld (.int .u8) 1 ((Addr.mk b1 0 none).add 0) fun v5 =>
  C.st 1 ((Addr.mk b3 0 none).add 0) (.int .u8 v5) <|
  C.ld .slice 1 ((Addr.mk b1 0 none).add 1) fun v8 =>
  C.call n_laws_toByteS [(.slice v8.a v8.n v8.c)] [.slice] fun r9 =>
  C.st 1 ((Addr.mk b3 0 none).add 1) (.slice r9.a r9.n r9.c) <|
  C.ld .agg 2 (Addr.mk b3 0 none) fun v11 =>
  C.st 2 (Addr.mk b2 0 none) (.agg v11) <|
  C.ld .agg 2 (Addr.mk b2 0 none) fun z8 =>
  C.ret (.agg z8)
theorem laws_toBlob_eq (C : Comb) (x0 : Array Value) : fT C Tryz.prog { loop := [], join := [], anyOrder := [], pure := [] } n_laws_toBlob [(.agg x0)] = laws_toBlob C x0 := by kernel_rfl
theorem laws_toBlob_calls {R : Value → World → Prop} {w : World} (x0 : Array Value) (h : (laws_toBlob (real Tryz.prog R) x0 : World → Prop) w) :
    Calls Tryz.prog n_laws_toBlob [(.agg x0)].toArray w fun e w' => ∃ v, e = .returned v ∧ R v w' := fT_sound mixed { loop := [], join := [], anyOrder := [], pure := [] } (by rw [laws_toBlob_eq]; exact h)

/-- impl.isLeaves (113) -/
def impl_isLeaves (C : Comb) (x0 : Int) : C.St :=
  C.call n_impl_within [(.int .i64 x0), (.int .i64 1), (.int .i64 256)] [.bool] fun r4 =>
  C.ret (.bool r4)
theorem impl_isLeaves_eq (C : Comb) (x0 : Int) : fT C Tryz.prog { loop := [], join := [], anyOrder := [], pure := [] } n_impl_isLeaves [(.int .i64 x0)] = impl_isLeaves C x0 := by kernel_rfl
theorem impl_isLeaves_calls {R : Value → World → Prop} {w : World} (x0 : Int) (h : (impl_isLeaves (real Tryz.prog R) x0 : World → Prop) w) :
    Calls Tryz.prog n_impl_isLeaves [(.int .i64 x0)].toArray w fun e w' => ∃ v, e = .returned v ∧ R v w' := fT_sound mixed { loop := [], join := [], anyOrder := [], pure := [] } (by rw [impl_isLeaves_eq]; exact h)

/-- (*impl.lister).pair (114) -/
def ptr_impl_lister_pair (C : Comb) (x0 : Addr) (x1 : Array Value) : C.St :=
  C.new ty_impl_Key (.agg x1) fun b3 =>
  C.new ty_impl_Key (.agg (Array.replicate 32 (.int .u8 0))) fun b4 =>
  C.new ty_impl_Key (.agg (Array.replicate 32 (.int .u8 0))) fun b5 =>
  C.ld .agg 32 (Addr.mk b3 0 none) fun v11 =>
  C.call n_ptr_impl_lister_blob [(.pointer (some x0)), (.agg v11), (.int .u8 2), (.int .i64 64)] [.slice, (.int .i64)] fun r12 =>
  cond (r12.2 != 0) (
    C.st 32 (Addr.mk b4 0 none) (.agg (Array.replicate 32 (.int .u8 0))) <|
    C.st 32 (Addr.mk b5 0 none) (.agg (Array.replicate 32 (.int .u8 0))) <|
    C.ld .agg 32 (Addr.mk b4 0 none) fun z6 =>
    C.ld .agg 32 (Addr.mk b5 0 none) fun z7 =>
    C.ret (.tuple #[(.agg z6), (.agg z7), (.int .i64 r12.2)])
  ) (
    C.draw <|
    C.pur (Instr.arrayAt ty_impl_Key (.slice r12.1.a r12.1.n r12.1.c)) .ptr fun y21 =>
    C.ld .agg 32 y21 fun v22 =>
    C.sl r12.1.a r12.1.n r12.1.c 1 (some 32) none none fun y24 =>
    C.pur (Instr.arrayAt ty_impl_Key (.slice y24.a y24.n y24.c)) .ptr fun y25 =>
    C.ld .agg 32 y25 fun v26 =>
    C.st 32 (Addr.mk b4 0 none) (.agg v22) <|
    C.chk [⟨6, 32, y25, .agg, v26⟩] <|
    C.st 32 (Addr.mk b5 0 none) (.agg v26) <|
    C.ld .agg 32 (Addr.mk b4 0 none) fun z13 =>
    C.ld .agg 32 (Addr.mk b5 0 none) fun z14 =>
    C.ret (.tuple #[(.agg z13), (.agg z14), (.int .i64 0)])
  )
theorem ptr_impl_lister_pair_eq (C : Comb) (x0 : Addr) (x1 : Array Value) : fT C Tryz.prog { loop := [], join := [], anyOrder := [4], pure := [] } n_ptr_impl_lister_pair [(.pointer (some x0)), (.agg x1)] = ptr_impl_lister_pair C x0 x1 := by kernel_rfl
theorem ptr_impl_lister_pair_calls {R : Value → World → Prop} {w : World} (x0 : Addr) (x1 : Array Value) (h : (ptr_impl_lister_pair (real Tryz.prog R) x0 x1 : World → Prop) w) :
    Calls Tryz.prog n_ptr_impl_lister_pair [(.pointer (some x0)), (.agg x1)].toArray w fun e w' => ∃ v, e = .returned v ∧ R v w' := fT_sound mixed { loop := [], join := [], anyOrder := [4], pure := [] } (by rw [ptr_impl_lister_pair_eq]; exact h)

/-- impl.leftOf (115) -/
def impl_leftOf (C : Comb) (x0 : Int) : C.St :=
  C.call n_math_bits_Len64 [(.int .u64 (IntKind.wrap .u64 ((IntKind.wrap .i64 (x0 - 1)))))] [(.int .i64)] fun r6 =>
  C.pur (eqB .shl ty_int64 (.const (.int .i64 1)) (.tmp 7) (.int .i64 1) (.int .i64 (IntKind.wrap .i64 (r6 - 1)))) (.int .i64) fun y8 =>
  C.ret (.int .i64 y8)
theorem impl_leftOf_eq (C : Comb) (x0 : Int) : fT C Tryz.prog { loop := [], join := [], anyOrder := [], pure := [] } n_impl_leftOf [(.int .i64 x0)] = impl_leftOf C x0 := by kernel_rfl
theorem impl_leftOf_calls {R : Value → World → Prop} {w : World} (x0 : Int) (h : (impl_leftOf (real Tryz.prog R) x0 : World → Prop) w) :
    Calls Tryz.prog n_impl_leftOf [(.int .i64 x0)].toArray w fun e w' => ∃ v, e = .returned v ∧ R v w' := fT_sound mixed { loop := [], join := [], anyOrder := [], pure := [] } (by rw [impl_leftOf_eq]; exact h)

/-- (*impl.lister).blob (116) -/
def ptr_impl_lister_blob (C : Comb) (x0 : Addr) (x1 : Array Value) (x2 : Int) (x3 : Int) : C.St :=
  C.new ty_impl_Key (.agg x1) fun b5 =>
  C.join (TL [.ptr, .bool]) (embL [.ptr, .bool]) (fun s8 => C.any fun _ =>
      cond (!s8.2) (
        C.ld .agg 32 (Addr.mk b5 0 none) fun v25 =>
        C.st 32 (x0.add 1) (.agg v25) <|
        C.ret (.tuple #[(.slice none 0 0), (.int .i64 6)])
      ) (
        C.ld (.int .u8) 1 (s8.1.add 0) fun v30 =>
        cond (v30 != x2) (
          C.ret (.tuple #[(.slice none 0 0), (.int .i64 8)])
        ) (
          cond (decide (x3 ≥ 0)) (
            C.ld .slice 1 (s8.1.add 1) fun v38 =>
            cond ((v38.n : Int) != x3) (
              C.ret (.tuple #[(.slice none 0 0), (.int .i64 8)])
            ) (
              C.ld .slice 1 (s8.1.add 1) fun v45 =>
              C.ret (.tuple #[(.slice v45.a v45.n v45.c), (.int .i64 0)])
            )
          ) (
            C.ld .slice 1 (s8.1.add 1) fun v45 =>
            C.ret (.tuple #[(.slice v45.a v45.n v45.c), (.int .i64 0)])
          )
        )
      )
    ) fun jt =>
  C.draw <|
  C.ld .ptr 1 (x0.add 0) fun v16 =>
  C.ld .agg 32 (Addr.mk b5 0 none) fun v17 =>
  C.all [
    (C.call n_ptr_impl_shop_get [(.pointer (some v16)), (.agg v17)] [.agg, .bool] fun r18 =>
     C.new ty_impl_Blob (.agg (#[(.int .u8 0), (.slice none 0 0)])) fun b10 =>
     C.st 2 (Addr.mk b10 0 none) (.agg r18.1) <|
     jt [(.pointer (some (Addr.mk b10 0 none))), (.bool r18.2)]),
    (C.new ty_impl_Blob (.agg (#[(.int .u8 0), (.slice none 0 0)])) fun b10 =>
     C.chk [⟨4, 32, (Addr.mk b5 0 none), .agg, v17⟩, ⟨3, 1, (x0.add 0), .ptr, v16⟩] <|
     C.call n_ptr_impl_shop_get [(.pointer (some v16)), (.agg v17)] [.agg, .bool] fun r18 =>
     C.st 2 (Addr.mk b10 0 none) (.agg r18.1) <|
     jt [(.pointer (some (Addr.mk b10 0 none))), (.bool r18.2)])]
theorem ptr_impl_lister_blob_eq (C : Comb) (x0 : Addr) (x1 : Array Value) (x2 : Int) (x3 : Int) : fT C Tryz.prog { loop := [], join := [(4, [(10, .ptr), (11, .bool)])], anyOrder := [1], pure := [] } n_ptr_impl_lister_blob [(.pointer (some x0)), (.agg x1), (.int .u8 x2), (.int .i64 x3)] = ptr_impl_lister_blob C x0 x1 x2 x3 := by kernel_rfl
theorem ptr_impl_lister_blob_calls {R : Value → World → Prop} {w : World} (x0 : Addr) (x1 : Array Value) (x2 : Int) (x3 : Int) (h : (ptr_impl_lister_blob (real Tryz.prog R) x0 x1 x2 x3 : World → Prop) w) :
    Calls Tryz.prog n_ptr_impl_lister_blob [(.pointer (some x0)), (.agg x1), (.int .u8 x2), (.int .i64 x3)].toArray w fun e w' => ∃ v, e = .returned v ∧ R v w' := fT_sound mixed { loop := [], join := [(4, [(10, .ptr), (11, .bool)])], anyOrder := [1], pure := [] } (by rw [ptr_impl_lister_blob_eq]; exact h)

/-- slices.Reverse[[]impl.Key,impl.Key] (117) -/
def slices_Reverse_sl_impl_Key_impl_Key (C : Comb) (x0 : Sl) : C.St :=
  C.loop (TL [(.int .i64), (.int .i64)]) (embL [(.int .i64), (.int .i64)]) [(.int .i64 0), (.int .i64 (IntKind.wrap .i64 ((x0.n : Int) - 1)))] fun s1 ct1 => C.any fun _ =>
  cond (decide (s1.1 < s1.2)) (
    C.draw <|
    C.ix x0.a x0.n 32 s1.2 fun p20 =>
    C.ld .agg 32 p20 fun v21 =>
    C.ix x0.a x0.n 32 s1.1 fun p24 =>
    C.ld .agg 32 p24 fun v25 =>
    C.ix x0.a x0.n 32 s1.1 fun p26 =>
    C.st 32 p26 (.agg v21) <|
    C.ix x0.a x0.n 32 s1.2 fun p27 =>
    C.st 32 p27 (.agg v25) <|
    ct1 [(.int .i64 (IntKind.wrap .i64 (s1.1 + 1))), (.int .i64 (IntKind.wrap .i64 (s1.2 - 1)))]
  ) (
    C.ret (.tuple #[])
  )
theorem slices_Reverse_sl_impl_Key_impl_Key_eq (C : Comb) (x0 : Sl) : fT C Tryz.prog { loop := [(1, [(2, (.int .i64)), (3, (.int .i64))])], join := [], anyOrder := [3], pure := [] } n_slices_Reverse_sl_impl_Key_impl_Key [(.slice x0.a x0.n x0.c)] = slices_Reverse_sl_impl_Key_impl_Key C x0 := by kernel_rfl
theorem slices_Reverse_sl_impl_Key_impl_Key_calls {R : Value → World → Prop} {w : World} (x0 : Sl) (h : (slices_Reverse_sl_impl_Key_impl_Key (real Tryz.prog R) x0 : World → Prop) w) :
    Calls Tryz.prog n_slices_Reverse_sl_impl_Key_impl_Key [(.slice x0.a x0.n x0.c)].toArray w fun e w' => ∃ v, e = .returned v ∧ R v w' := fT_sound mixed { loop := [(1, [(2, (.int .i64)), (3, (.int .i64))])], join := [], anyOrder := [3], pure := [] } (by rw [slices_Reverse_sl_impl_Key_impl_Key_eq]; exact h)

/-- laws.eqBlob (118) -/
def laws_eqBlob (C : Comb) (x0 : Array Value) (x1 : Array Value) : C.St :=
  C.new ty_impl_Blob (.agg x0) fun b2 =>
  C.new ty_impl_Blob (.agg x1) fun b3 =>
  C.ld (.int .u8) 1 ((Addr.mk b2 0 none).add 0) fun v6 =>
  C.ld (.int .u8) 1 ((Addr.mk b3 0 none).add 0) fun v8 =>
  cond (v6 != v8) (
    C.ret (.bool false)
  ) (
    C.ld .slice 1 ((Addr.mk b2 0 none).add 1) fun v11 =>
    C.ld .slice 1 ((Addr.mk b3 0 none).add 1) fun v13 =>
    C.call n_laws_eqByteS [(.slice v11.a v11.n v11.c), (.slice v13.a v13.n v13.c)] [.bool] fun r14 =>
    cond (!r14) (
      C.ret (.bool false)
    ) (
      C.ret (.bool true)
    )
  )
theorem laws_eqBlob_eq (C : Comb) (x0 : Array Value) (x1 : Array Value) : fT C Tryz.prog { loop := [], join := [], anyOrder := [], pure := [] } n_laws_eqBlob [(.agg x0), (.agg x1)] = laws_eqBlob C x0 x1 := by kernel_rfl
theorem laws_eqBlob_calls {R : Value → World → Prop} {w : World} (x0 : Array Value) (x1 : Array Value) (h : (laws_eqBlob (real Tryz.prog R) x0 x1 : World → Prop) w) :
    Calls Tryz.prog n_laws_eqBlob [(.agg x0), (.agg x1)].toArray w fun e w' => ∃ v, e = .returned v ∧ R v w' := fT_sound mixed { loop := [], join := [], anyOrder := [], pure := [] } (by rw [laws_eqBlob_eq]; exact h)

/-- impl.ValidStore (119) -/
def impl_ValidStore (C : Comb) (x0 : Array Value) : C.St :=
  C.new ty_impl_Store (.agg x0) fun b1 =>
  C.join (TL []) (embL []) (fun s5 => C.any fun _ =>
      C.ld .agg 1 (Addr.mk b1 0 none) fun v13 =>
      C.call n_impl_Store_keys [(.agg v13)] [.slice] fun r14 =>
      C.call n_impl_sorted [(.slice r14.a r14.n r14.c)] [.slice] fun r16 =>
      cond ((r16.n : Int) == (r14.n : Int)) (
        C.call n_slices_IsSortedFunc_sl_impl_Key_impl_Key [(.slice r14.a r14.n r14.c), (.func (.func n_impl_compareKeys) #[] #[])] [.bool] fun r23 =>
        C.ret (.bool r23)
      ) (
        C.ret (.bool false)
      )
    ) fun jt =>
  C.ld .slice 1 ((Addr.mk b1 0 none).add 0) fun v5 =>
  cond (decide ((v5.n : Int) > 128)) (
    C.ret (.bool false)
  ) (
    C.ld .slice 1 ((Addr.mk b1 0 none).add 0) fun v10 =>
    C.call n_slices_ContainsFunc_sl_impl_Blob_impl_Blob [(.slice v10.a v10.n v10.c), (.func (.func n_impl_ValidStore_1) #[] #[])] [.bool] fun r11 =>
    cond r11 (
      C.ret (.bool false)
    ) (
      jt []
    )
  )
theorem impl_ValidStore_eq (C : Comb) (x0 : Array Value) : fT C Tryz.prog { loop := [], join := [(36, [])], anyOrder := [], pure := [] } n_impl_ValidStore [(.agg x0)] = impl_ValidStore C x0 := by kernel_rfl
theorem impl_ValidStore_calls {R : Value → World → Prop} {w : World} (x0 : Array Value) (h : (impl_ValidStore (real Tryz.prog R) x0 : World → Prop) w) :
    Calls Tryz.prog n_impl_ValidStore [(.agg x0)].toArray w fun e w' => ∃ v, e = .returned v ∧ R v w' := fT_sound mixed { loop := [], join := [(36, [])], anyOrder := [], pure := [] } (by rw [impl_ValidStore_eq]; exact h)

/-- (impl.Store).keys (120) -/
def impl_Store_keys (C : Comb) (x0 : Array Value) : C.St :=
  C.new ty_impl_Store (.agg x0) fun b1 =>
  C.sem (Instr.buildSlice ty_sl_impl_Key 0 #[]) .slice fun y6 =>
  C.ld .slice 1 ((Addr.mk b1 0 none).add 0) fun v8 =>
  C.loop (TL [.slice, (.int .i64)]) (embL [.slice, (.int .i64)]) [(.slice y6.a y6.n y6.c), (.int .i64 0)] fun s4 ct4 => C.any fun _ =>
  cond (decide (s4.2 < (v8.n : Int))) (
    C.ix v8.a v8.n 2 s4.2 fun p12 =>
    C.ld .agg 2 p12 fun v13 =>
    C.new ty_impl_Blob (.agg (#[(.int .u8 0), (.slice none 0 0)])) fun b5 =>
    C.st 2 (Addr.mk b5 0 none) (.agg v13) <|
    C.ld .agg 2 (Addr.mk b5 0 none) fun v15 =>
    C.call n_impl_Blob_key [(.agg v15)] [.agg] fun r16 =>
    C.sem (Instr.buildSlice ty_sl_impl_Key 1 #[(0, (.agg r16))]) .slice fun y17 =>
    C.sem (Builtin.append_ #[ty_sl_impl_Key, ty_sl_impl_Key] ty_sl_impl_Key #[(.slice s4.1.a s4.1.n s4.1.c), (.slice y17.a y17.n y17.c)]) .slice fun y18 =>
    ct4 [(.slice y18.a y18.n y18.c), (.int .i64 (IntKind.wrap .i64 (s4.2 + 1)))]
  ) (
    C.ret (.slice s4.1.a s4.1.n s4.1.c)
  )
theorem impl_Store_keys_eq (C : Comb) (x0 : Array Value) : fT C Tryz.prog { loop := [(3, [(3, .slice), (10, (.int .i64))])], join := [], anyOrder := [], pure := [] } n_impl_Store_keys [(.agg x0)] = impl_Store_keys C x0 := by kernel_rfl
theorem impl_Store_keys_calls {R : Value → World → Prop} {w : World} (x0 : Array Value) (h : (impl_Store_keys (real Tryz.prog R) x0 : World → Prop) w) :
    Calls Tryz.prog n_impl_Store_keys [(.agg x0)].toArray w fun e w' => ∃ v, e = .returned v ∧ R v w' := fT_sound mixed { loop := [(3, [(3, .slice), (10, (.int .i64))])], join := [], anyOrder := [], pure := [] } (by rw [impl_Store_keys_eq]; exact h)

/-- slices.Clone[[]impl.Blob,impl.Blob] (121) -/
def slices_Clone_sl_impl_Blob_impl_Blob (C : Comb) (x0 : Sl) : C.St :=
  C.pur (eqB .eql ty_sl_impl_Blob (.tmp 3) (.const (.slice none 0 0)) (.slice x0.a x0.n x0.c) (.slice none 0 0)) .bool fun y4 =>
  cond y4 (
    C.ret (.slice none 0 0)
  ) (
    C.sem (Instr.buildSlice ty_sl_impl_Blob 0 #[]) .slice fun y5 =>
    C.sem (Builtin.append_ #[ty_sl_impl_Blob, ty_sl_impl_Blob] ty_sl_impl_Blob #[(.slice y5.a y5.n y5.c), (.slice x0.a x0.n x0.c)]) .slice fun y7 =>
    C.ret (.slice y7.a y7.n y7.c)
  )
theorem slices_Clone_sl_impl_Blob_impl_Blob_eq (C : Comb) (x0 : Sl) : fT C Tryz.prog { loop := [], join := [], anyOrder := [], pure := [] } n_slices_Clone_sl_impl_Blob_impl_Blob [(.slice x0.a x0.n x0.c)] = slices_Clone_sl_impl_Blob_impl_Blob C x0 := by kernel_rfl
theorem slices_Clone_sl_impl_Blob_impl_Blob_calls {R : Value → World → Prop} {w : World} (x0 : Sl) (h : (slices_Clone_sl_impl_Blob_impl_Blob (real Tryz.prog R) x0 : World → Prop) w) :
    Calls Tryz.prog n_slices_Clone_sl_impl_Blob_impl_Blob [(.slice x0.a x0.n x0.c)].toArray w fun e w' => ∃ v, e = .returned v ∧ R v w' := fT_sound mixed { loop := [], join := [], anyOrder := [], pure := [] } (by rw [slices_Clone_sl_impl_Blob_impl_Blob_eq]; exact h)

/-- spec.l05SameBlob (122) -/
def spec_l05SameBlob (C : Comb) (x0 : Addr) (x1 : Addr) : C.St :=
  C.draw <|
  C.ld (.int .u8) 1 (x0.add 0) fun v8 =>
  C.ld (.int .u8) 1 (x1.add 0) fun v12 =>
  cond (v8 == v12) (
    C.all [
      (C.ld .slice 1 (x0.add 1) fun v18 =>
       C.chk [⟨7, 1, (x1.add 0), (.int .u8), v12⟩, ⟨3, 1, (x0.add 0), (.int .u8), v8⟩] <|
       C.ld .slice 1 (x1.add 1) fun v22 =>
       C.chk [⟨7, 1, (x1.add 0), (.int .u8), v12⟩, ⟨3, 1, (x0.add 0), (.int .u8), v8⟩] <|
       C.call n_spec_l01Bytes [(.slice v18.a v18.n v18.c), (.slice v22.a v22.n v22.c)] [.bool] fun r23 =>
       C.chk [⟨7, 1, (x1.add 0), (.int .u8), v12⟩, ⟨3, 1, (x0.add 0), (.int .u8), v8⟩] <|
       C.ret (.bool r23)),
      (C.ld .slice 1 (x1.add 1) fun v22 =>
       C.chk [⟨7, 1, (x1.add 0), (.int .u8), v12⟩, ⟨3, 1, (x0.add 0), (.int .u8), v8⟩] <|
       C.ld .slice 1 (x0.add 1) fun v18 =>
       C.chk [⟨7, 1, (x1.add 0), (.int .u8), v12⟩, ⟨3, 1, (x0.add 0), (.int .u8), v8⟩] <|
       C.call n_spec_l01Bytes [(.slice v18.a v18.n v18.c), (.slice v22.a v22.n v22.c)] [.bool] fun r23 =>
       C.chk [⟨7, 1, (x1.add 0), (.int .u8), v12⟩, ⟨3, 1, (x0.add 0), (.int .u8), v8⟩] <|
       C.ret (.bool r23))]
  ) (
    C.all [
      (C.chk [⟨7, 1, (x1.add 0), (.int .u8), v12⟩, ⟨3, 1, (x0.add 0), (.int .u8), v8⟩] <|
       C.chk [⟨7, 1, (x1.add 0), (.int .u8), v12⟩, ⟨3, 1, (x0.add 0), (.int .u8), v8⟩] <|
       C.chk [⟨7, 1, (x1.add 0), (.int .u8), v12⟩, ⟨3, 1, (x0.add 0), (.int .u8), v8⟩] <|
       C.ret (.bool false)),
      (C.chk [⟨7, 1, (x1.add 0), (.int .u8), v12⟩, ⟨3, 1, (x0.add 0), (.int .u8), v8⟩] <|
       C.chk [⟨7, 1, (x1.add 0), (.int .u8), v12⟩, ⟨3, 1, (x0.add 0), (.int .u8), v8⟩] <|
       C.chk [⟨7, 1, (x1.add 0), (.int .u8), v12⟩, ⟨3, 1, (x0.add 0), (.int .u8), v8⟩] <|
       C.ret (.bool false))]
  )
theorem spec_l05SameBlob_eq (C : Comb) (x0 : Addr) (x1 : Addr) : fT C Tryz.prog { loop := [], join := [], anyOrder := [1], pure := [] } n_spec_l05SameBlob [(.pointer (some x0)), (.pointer (some x1))] = spec_l05SameBlob C x0 x1 := by kernel_rfl
theorem spec_l05SameBlob_calls {R : Value → World → Prop} {w : World} (x0 : Addr) (x1 : Addr) (h : (spec_l05SameBlob (real Tryz.prog R) x0 x1 : World → Prop) w) :
    Calls Tryz.prog n_spec_l05SameBlob [(.pointer (some x0)), (.pointer (some x1))].toArray w fun e w' => ∃ v, e = .returned v ∧ R v w' := fT_sound mixed { loop := [], join := [], anyOrder := [1], pure := [] } (by rw [spec_l05SameBlob_eq]; exact h)

/-- (*spec.l05Store).store (123) -/
def ptr_spec_l05Store_store (C : Comb) (x0 : Addr) : C.St :=
  C.new ty_impl_Store (.agg (#[(.slice none 0 0)])) fun b2 =>
  C.pur (Instr.build ty_impl_Store #[]) .agg fun y5 =>
  C.new ty_impl_Store (.agg (#[(.slice none 0 0)])) fun b3 =>
  C.st 1 (Addr.mk b3 0 none) (.agg y5) <|
  C.loop (TL [(.int .i64)]) (embL [(.int .i64)]) [(.int .i64 0)] fun s4 ct4 => C.any fun _ =>
  C.ld .slice 1 (x0.add 0) fun v10 =>
  cond (decide (s4 < (v10.n : Int))) (
    C.draw <|
    C.ld .slice 1 ((Addr.mk b3 0 none).add 0) fun v16 =>
    C.ld .slice 1 (x0.add 0) fun v20 =>
    C.ix v20.a v20.n 2 s4 fun p22 =>
    C.ld .agg 2 p22 fun v23 =>
    C.call n_spec_l05Copy [(.agg v23)] [.agg] fun r24 =>
    C.chk [⟨5, 1, (x0.add 0), .slice, v20⟩, ⟨1, 1, ((Addr.mk b3 0 none).add 0), .slice, v16⟩] <|
    C.sem (Instr.buildSlice ty_sl_impl_Blob 1 #[(0, (.agg r24))]) .slice fun y25 =>
    C.chk [⟨5, 1, (x0.add 0), .slice, v20⟩, ⟨1, 1, ((Addr.mk b3 0 none).add 0), .slice, v16⟩] <|
    C.sem (Builtin.append_ #[ty_sl_impl_Blob, ty_sl_impl_Blob] ty_sl_impl_Blob #[(.slice v16.a v16.n v16.c), (.slice y25.a y25.n y25.c)]) .slice fun y26 =>
    C.chk [⟨5, 1, (x0.add 0), .slice, v20⟩] <|
    C.st 1 ((Addr.mk b3 0 none).add 0) (.slice y26.a y26.n y26.c) <|
    ct4 [(.int .i64 (IntKind.wrap .i64 (s4 + 1)))]
  ) (
    C.ld .agg 1 (Addr.mk b3 0 none) fun v28 =>
    C.st 1 (Addr.mk b2 0 none) (.agg v28) <|
    C.ld .agg 1 (Addr.mk b2 0 none) fun z14 =>
    C.ret (.agg z14)
  )
theorem ptr_spec_l05Store_store_eq (C : Comb) (x0 : Addr) : fT C Tryz.prog { loop := [(3, [(4, (.int .i64))])], join := [], anyOrder := [5], pure := [] } n_ptr_spec_l05Store_store [(.pointer (some x0))] = ptr_spec_l05Store_store C x0 := by kernel_rfl
theorem ptr_spec_l05Store_store_calls {R : Value → World → Prop} {w : World} (x0 : Addr) (h : (ptr_spec_l05Store_store (real Tryz.prog R) x0 : World → Prop) w) :
    Calls Tryz.prog n_ptr_spec_l05Store_store [(.pointer (some x0))].toArray w fun e w' => ∃ v, e = .returned v ∧ R v w' := fT_sound mixed { loop := [(3, [(4, (.int .i64))])], join := [], anyOrder := [5], pure := [] } (by rw [ptr_spec_l05Store_store_eq]; exact h)

/-- slices.IndexFunc[[][]byte,[]byte] (124) -/
def slices_IndexFunc_sl_sl_byte_sl_byte (C : Comb) (x0 : Sl) (x1 : Value) : C.St :=
  C.loop (TL [(.int .i64)]) (embL [(.int .i64)]) [(.int .i64 0)] fun s1 ct1 => C.any fun _ =>
  cond (decide (s1 < (x0.n : Int))) (
    C.ix x0.a x0.n 1 s1 fun p14 =>
    C.ld .slice 1 p14 fun v15 =>
    C.callV x1 [(.slice v15.a v15.n v15.c)] [.bool] fun r16 =>
    cond r16 (
      C.ret (.int .i64 s1)
    ) (
      ct1 [(.int .i64 (IntKind.wrap .i64 (s1 + 1)))]
    )
  ) (
    C.ret (.int .i64 (-1))
  )
theorem slices_IndexFunc_sl_sl_byte_sl_byte_eq (C : Comb) (x0 : Sl) (x1 : Value) : fT C Tryz.prog { loop := [(2, [(8, (.int .i64))])], join := [], anyOrder := [], pure := [] } n_slices_IndexFunc_sl_sl_byte_sl_byte [(.slice x0.a x0.n x0.c), x1] = slices_IndexFunc_sl_sl_byte_sl_byte C x0 x1 := by kernel_rfl
theorem slices_IndexFunc_sl_sl_byte_sl_byte_calls {R : Value → World → Prop} {w : World} (x0 : Sl) (x1 : Value) (h : (slices_IndexFunc_sl_sl_byte_sl_byte (real Tryz.prog R) x0 x1 : World → Prop) w) :
    Calls Tryz.prog n_slices_IndexFunc_sl_sl_byte_sl_byte [(.slice x0.a x0.n x0.c), x1].toArray w fun e w' => ∃ v, e = .returned v ∧ R v w' := fT_sound mixed { loop := [(2, [(8, (.int .i64))])], join := [], anyOrder := [], pure := [] } (by rw [slices_IndexFunc_sl_sl_byte_sl_byte_eq]; exact h)

/-- impl.hash (125) -/
def impl_hash (C : Comb) (x0 : Int) (x1 : Sl) : C.St :=
  C.new ty_impl_Key (.agg (Array.replicate 32 (.int .u8 0))) fun b4 =>
  C.call n_impl_size_byte [(.slice x1.a x1.n x1.c)] [(.int .i64)] fun r10 =>
  C.call n_impl_padding [(.int .i64 r10)] [.slice] fun r11 =>
  C.sem (Instr.buildSlice ty_sl_sl_uint8 2 #[(0, (.slice x1.a x1.n x1.c)), (1, (.slice r11.a r11.n r11.c))]) .slice fun y12 =>
  C.call n_slices_Concat_sl_byte_byte [(.slice y12.a y12.n y12.c)] [.slice] fun r13 =>
  C.call n_impl_blocks [(.slice r13.a r13.n r13.c)] [.slice, .slice] fun r14 =>
  C.call n_impl_StartState [(.int .u8 x0)] [.agg] fun r18 =>
  C.call n_impl_mixed [(.agg r18), (.slice r14.1.a r14.1.n r14.1.c)] [.agg] fun r20 =>
  C.call n_impl_keyOf [(.agg r20)] [.agg] fun r21 =>
  C.st 32 (Addr.mk b4 0 none) (.agg r21) <|
  C.ld .agg 32 (Addr.mk b4 0 none) fun z10 =>
  C.ret (.agg z10)
theorem impl_hash_eq (C : Comb) (x0 : Int) (x1 : Sl) : fT C Tryz.prog { loop := [], join := [], anyOrder := [], pure := [] } n_impl_hash [(.int .u8 x0), (.slice x1.a x1.n x1.c)] = impl_hash C x0 x1 := by kernel_rfl
theorem impl_hash_calls {R : Value → World → Prop} {w : World} (x0 : Int) (x1 : Sl) (h : (impl_hash (real Tryz.prog R) x0 x1 : World → Prop) w) :
    Calls Tryz.prog n_impl_hash [(.int .u8 x0), (.slice x1.a x1.n x1.c)].toArray w fun e w' => ∃ v, e = .returned v ∧ R v w' := fT_sound mixed { loop := [], join := [], anyOrder := [], pure := [] } (by rw [impl_hash_eq]; exact h)

/-- impl.size[impl.Key] (126) -/
def impl_size_impl_Key (C : Comb) (x0 : Sl) : C.St :=
  C.ret (.int .i64 (x0.n : Int))
theorem impl_size_impl_Key_eq (C : Comb) (x0 : Sl) : fT C Tryz.prog { loop := [], join := [], anyOrder := [], pure := [] } n_impl_size_impl_Key [(.slice x0.a x0.n x0.c)] = impl_size_impl_Key C x0 := by kernel_rfl
theorem impl_size_impl_Key_calls {R : Value → World → Prop} {w : World} (x0 : Sl) (h : (impl_size_impl_Key (real Tryz.prog R) x0 : World → Prop) w) :
    Calls Tryz.prog n_impl_size_impl_Key [(.slice x0.a x0.n x0.c)].toArray w fun e w' => ∃ v, e = .returned v ∧ R v w' := fT_sound mixed { loop := [], join := [], anyOrder := [], pure := [] } (by rw [impl_size_impl_Key_eq]; exact h)

/-- slices.Concat[[]byte,byte] (127) -/
def slices_Concat_sl_byte_byte (C : Comb) (x0 : Sl) : C.St :=
  C.loop (TL [(.int .i64), (.int .i64)]) (embL [(.int .i64), (.int .i64)]) [(.int .i64 0), (.int .i64 0)] fun s1 ct1 => C.any fun _ =>
  cond (decide (s1.2 < (x0.n : Int))) (
    C.ix x0.a x0.n 1 s1.2 fun p13 =>
    C.ld .slice 1 p13 fun v14 =>
    cond (decide ((IntKind.wrap .i64 (s1.1 + (v14.n : Int))) < 0)) (
      C.pur (Instr.makeInterface ty_string (.string (⟨#[108, 101, 110, 32, 111, 117, 116, 32, 111, 102, 32, 114, 97, 110, 103, 101]⟩ : ByteArray))) .val fun y21 =>
      C.fail
    ) (
      ct1 [(.int .i64 (IntKind.wrap .i64 (s1.1 + (v14.n : Int)))), (.int .i64 (IntKind.wrap .i64 (s1.2 + 1)))]
    )
  ) (
    C.call n_slices_Grow_sl_byte_byte [(.slice none 0 0), (.int .i64 s1.1)] [.slice] fun r24 =>
    C.loop (TL [.slice, (.int .i64)]) (embL [.slice, (.int .i64)]) [(.slice r24.a r24.n r24.c), (.int .i64 0)] fun s6 ct6 => C.any fun _ =>
    cond (decide (s6.2 < (x0.n : Int))) (
      C.ix x0.a x0.n 1 s6.2 fun p29 =>
      C.ld .slice 1 p29 fun v30 =>
      C.sem (Builtin.append_ #[ty_sl_uint8, ty_sl_uint8] ty_sl_uint8 #[(.slice s6.1.a s6.1.n s6.1.c), (.slice v30.a v30.n v30.c)]) .slice fun y33 =>
      ct6 [(.slice y33.a y33.n y33.c), (.int .i64 (IntKind.wrap .i64 (s6.2 + 1)))]
    ) (
      C.ret (.slice s6.1.a s6.1.n s6.1.c)
    )
  )
theorem slices_Concat_sl_byte_byte_eq (C : Comb) (x0 : Sl) : fT C Tryz.prog { loop := [(3, [(3, (.int .i64)), (11, (.int .i64))]), (11, [(6, .slice), (27, (.int .i64))])], join := [], anyOrder := [], pure := [] } n_slices_Concat_sl_byte_byte [(.slice x0.a x0.n x0.c)] = slices_Concat_sl_byte_byte C x0 := by kernel_rfl
theorem slices_Concat_sl_byte_byte_calls {R : Value → World → Prop} {w : World} (x0 : Sl) (h : (slices_Concat_sl_byte_byte (real Tryz.prog R) x0 : World → Prop) w) :
    Calls Tryz.prog n_slices_Concat_sl_byte_byte [(.slice x0.a x0.n x0.c)].toArray w fun e w' => ∃ v, e = .returned v ∧ R v w' := fT_sound mixed { loop := [(3, [(3, (.int .i64)), (11, (.int .i64))]), (11, [(6, .slice), (27, (.int .i64))])], join := [], anyOrder := [], pure := [] } (by rw [slices_Concat_sl_byte_byte_eq]; exact h)

/-- (*impl.shop).put (128) -/
def ptr_impl_shop_put (C : Comb) (x0 : Addr) (x1 : Array Value) : C.St :=
  C.new ty_impl_Blob (.agg x1) fun b3 =>
  C.new ty_impl_Key (.agg (Array.replicate 32 (.int .u8 0))) fun b4 =>
  C.ld .agg 2 (Addr.mk b3 0 none) fun v9 =>
  C.call n_impl_Blob_key [(.agg v9)] [.agg] fun r10 =>
  C.new ty_impl_Key (.agg (Array.replicate 32 (.int .u8 0))) fun b6 =>
  C.st 32 (Addr.mk b6 0 none) (.agg r10) <|
  C.ld .agg 32 (Addr.mk b6 0 none) fun v13 =>
  C.call n_ptr_impl_shop_find [(.pointer (some x0)), (.agg v13)] [(.int .i64), .bool] fun r14 =>
  C.join (TL [.bool]) (embL [.bool]) (fun s21 => C.any fun _ =>
      cond s21 (
        C.st 32 (Addr.mk b4 0 none) (.agg (Array.replicate 32 (.int .u8 0))) <|
        C.ld .agg 32 (Addr.mk b4 0 none) fun z22 =>
        C.ret (.tuple #[(.agg z22), (.int .i64 8)])
      ) (
        cond r14.2 (
          C.ld .agg 32 (Addr.mk b6 0 none) fun v34 =>
          C.st 32 (Addr.mk b4 0 none) (.agg v34) <|
          C.ld .agg 32 (Addr.mk b4 0 none) fun z24 =>
          C.ret (.tuple #[(.agg z24), (.int .i64 0)])
        ) (
          C.ld .slice 1 (x0.add 0) fun v39 =>
          cond ((v39.n : Int) == 128) (
            C.st 32 (Addr.mk b4 0 none) (.agg (Array.replicate 32 (.int .u8 0))) <|
            C.ld .agg 32 (Addr.mk b4 0 none) fun z26 =>
            C.ret (.tuple #[(.agg z26), (.int .i64 3)])
          ) (
            C.draw <|
            C.ld .slice 1 (x0.add 0) fun v48 =>
            C.ld .agg 32 (Addr.mk b6 0 none) fun v50 =>
            C.ld .slice 1 (x0.add 1) fun v56 =>
            C.ld .agg 2 (Addr.mk b3 0 none) fun v58 =>
            C.all [
              (C.sem (Instr.buildSlice ty_sl_impl_Key 1 #[(0, (.agg v50))]) .slice fun y51 =>
               C.chk [⟨15, 2, (Addr.mk b3 0 none), .agg, v58⟩, ⟨13, 1, (x0.add 1), .slice, v56⟩, ⟨5, 1, (x0.add 0), .slice, v48⟩] <|
               C.all [
                 (C.call n_slices_Insert_sl_impl_Key_impl_Key [(.slice v48.a v48.n v48.c), (.int .i64 r14.1), (.slice y51.a y51.n y51.c)] [.slice] fun r52 =>
                  C.chk [⟨15, 2, (Addr.mk b3 0 none), .agg, v58⟩, ⟨13, 1, (x0.add 1), .slice, v56⟩] <|
                  C.sem (Instr.buildSlice ty_sl_impl_Blob 1 #[(0, (.agg v58))]) .slice fun y59 =>
                  C.chk [⟨13, 1, (x0.add 1), .slice, v56⟩] <|
                  C.call n_slices_Insert_sl_impl_Blob_impl_Blob [(.slice v56.a v56.n v56.c), (.int .i64 r14.1), (.slice y59.a y59.n y59.c)] [.slice] fun r60 =>
                  C.st 1 (x0.add 0) (.slice r52.a r52.n r52.c) <|
                  C.st 1 (x0.add 1) (.slice r60.a r60.n r60.c) <|
                  C.ld .agg 32 (Addr.mk b6 0 none) fun v65 =>
                  C.st 32 (Addr.mk b4 0 none) (.agg v65) <|
                  C.ld .agg 32 (Addr.mk b4 0 none) fun z36 =>
                  C.ret (.tuple #[(.agg z36), (.int .i64 0)])),
                 (C.sem (Instr.buildSlice ty_sl_impl_Blob 1 #[(0, (.agg v58))]) .slice fun y59 =>
                  C.chk [⟨13, 1, (x0.add 1), .slice, v56⟩, ⟨5, 1, (x0.add 0), .slice, v48⟩] <|
                  C.call n_slices_Insert_sl_impl_Key_impl_Key [(.slice v48.a v48.n v48.c), (.int .i64 r14.1), (.slice y51.a y51.n y51.c)] [.slice] fun r52 =>
                  C.chk [⟨13, 1, (x0.add 1), .slice, v56⟩] <|
                  C.call n_slices_Insert_sl_impl_Blob_impl_Blob [(.slice v56.a v56.n v56.c), (.int .i64 r14.1), (.slice y59.a y59.n y59.c)] [.slice] fun r60 =>
                  C.st 1 (x0.add 0) (.slice r52.a r52.n r52.c) <|
                  C.st 1 (x0.add 1) (.slice r60.a r60.n r60.c) <|
                  C.ld .agg 32 (Addr.mk b6 0 none) fun v65 =>
                  C.st 32 (Addr.mk b4 0 none) (.agg v65) <|
                  C.ld .agg 32 (Addr.mk b4 0 none) fun z41 =>
                  C.ret (.tuple #[(.agg z41), (.int .i64 0)]))]),
              (C.sem (Instr.buildSlice ty_sl_impl_Blob 1 #[(0, (.agg v58))]) .slice fun y59 =>
               C.chk [⟨13, 1, (x0.add 1), .slice, v56⟩, ⟨7, 32, (Addr.mk b6 0 none), .agg, v50⟩, ⟨5, 1, (x0.add 0), .slice, v48⟩] <|
               C.sem (Instr.buildSlice ty_sl_impl_Key 1 #[(0, (.agg v50))]) .slice fun y51 =>
               C.chk [⟨13, 1, (x0.add 1), .slice, v56⟩, ⟨5, 1, (x0.add 0), .slice, v48⟩] <|
               C.call n_slices_Insert_sl_impl_Key_impl_Key [(.slice v48.a v48.n v48.c), (.int .i64 r14.1), (.slice y51.a y51.n y51.c)] [.slice] fun r52 =>
               C.chk [⟨13, 1, (x0.add 1), .slice, v56⟩] <|
               C.call n_slices_Insert_sl_impl_Blob_impl_Blob [(.slice v56.a v56.n v56.c), (.int .i64 r14.1), (.slice y59.a y59.n y59.c)] [.slice] fun r60 =>
               C.st 1 (x0.add 0) (.slice r52.a r52.n r52.c) <|
               C.st 1 (x0.add 1) (.slice r60.a r60.n r60.c) <|
               C.ld .agg 32 (Addr.mk b6 0 none) fun v65 =>
               C.st 32 (Addr.mk b4 0 none) (.agg v65) <|
               C.ld .agg 32 (Addr.mk b4 0 none) fun z47 =>
               C.ret (.tuple #[(.agg z47), (.int .i64 0)]))]
          )
        )
      )
    ) fun jt =>
  C.draw <|
  cond r14.2 (
    C.all [
      (C.ld .slice 1 (x0.add 1) fun v23 =>
       C.ix v23.a v23.n 2 r14.1 fun p25 =>
       C.all [
         (C.ld .agg 2 p25 fun v26 =>
          C.ld .agg 2 (Addr.mk b3 0 none) fun v27 =>
          C.call n_impl_SameBlob [(.agg v26), (.agg v27)] [.bool] fun r28 =>
          jt [(.bool (!r28))]),
         (C.ld .agg 2 (Addr.mk b3 0 none) fun v27 =>
          C.ld .agg 2 p25 fun v26 =>
          C.call n_impl_SameBlob [(.agg v26), (.agg v27)] [.bool] fun r28 =>
          jt [(.bool (!r28))])]),
      (C.ld .agg 2 (Addr.mk b3 0 none) fun v27 =>
       C.ld .slice 1 (x0.add 1) fun v23 =>
       C.ix v23.a v23.n 2 r14.1 fun p25 =>
       C.ld .agg 2 p25 fun v26 =>
       C.call n_impl_SameBlob [(.agg v26), (.agg v27)] [.bool] fun r28 =>
       jt [(.bool (!r28))])]
  ) (
    C.all [
      (C.all [
         (jt [(.bool false)]),
         (jt [(.bool false)])]),
      (jt [(.bool false)])]
  )
theorem ptr_impl_shop_put_eq (C : Comb) (x0 : Addr) (x1 : Array Value) : fT C Tryz.prog { loop := [], join := [(10, [(17, .bool)])], anyOrder := [3, 9], pure := [] } n_ptr_impl_shop_put [(.pointer (some x0)), (.agg x1)] = ptr_impl_shop_put C x0 x1 := by kernel_rfl
theorem ptr_impl_shop_put_calls {R : Value → World → Prop} {w : World} (x0 : Addr) (x1 : Array Value) (h : (ptr_impl_shop_put (real Tryz.prog R) x0 x1 : World → Prop) w) :
    Calls Tryz.prog n_ptr_impl_shop_put [(.pointer (some x0)), (.agg x1)].toArray w fun e w' => ∃ v, e = .returned v ∧ R v w' := fT_sound mixed { loop := [], join := [(10, [(17, .bool)])], anyOrder := [3, 9], pure := [] } (by rw [ptr_impl_shop_put_eq]; exact h)

/-- (*impl.shop).store (129) -/
def ptr_impl_shop_store (C : Comb) (x0 : Addr) : C.St :=
  C.new ty_impl_Store (.agg (#[(.slice none 0 0)])) fun b2 =>
  C.pur (Instr.build ty_impl_Store #[]) .agg fun y6 =>
  C.new ty_impl_Store (.agg (#[(.slice none 0 0)])) fun b3 =>
  C.st 1 (Addr.mk b3 0 none) (.agg y6) <|
  C.ld .slice 1 (x0.add 1) fun v10 =>
  C.loop (TL [(.int .i64)]) (embL [(.int .i64)]) [(.int .i64 0)] fun s5 ct5 => C.any fun _ =>
  cond (decide (s5 < (v10.n : Int))) (
    C.ix v10.a v10.n 2 s5 fun p14 =>
    C.ld .agg 2 p14 fun v15 =>
    C.new ty_impl_Blob (.agg (#[(.int .u8 0), (.slice none 0 0)])) fun b5 =>
    C.st 2 (Addr.mk b5 0 none) (.agg v15) <|
    C.draw <|
    C.ld .slice 1 ((Addr.mk b3 0 none).add 0) fun v17 =>
    C.ld .agg 2 (Addr.mk b5 0 none) fun v18 =>
    C.call n_impl_Blob_copied [(.agg v18)] [.agg] fun r19 =>
    C.chk [⟨1, 1, ((Addr.mk b3 0 none).add 0), .slice, v17⟩] <|
    C.sem (Instr.buildSlice ty_sl_impl_Blob 1 #[(0, (.agg r19))]) .slice fun y20 =>
    C.chk [⟨1, 1, ((Addr.mk b3 0 none).add 0), .slice, v17⟩] <|
    C.sem (Builtin.append_ #[ty_sl_impl_Blob, ty_sl_impl_Blob] ty_sl_impl_Blob #[(.slice v17.a v17.n v17.c), (.slice y20.a y20.n y20.c)]) .slice fun y21 =>
    C.st 1 ((Addr.mk b3 0 none).add 0) (.slice y21.a y21.n y21.c) <|
    ct5 [(.int .i64 (IntKind.wrap .i64 (s5 + 1)))]
  ) (
    C.ld .agg 1 (Addr.mk b3 0 none) fun v24 =>
    C.st 1 (Addr.mk b2 0 none) (.agg v24) <|
    C.ld .agg 1 (Addr.mk b2 0 none) fun z15 =>
    C.ret (.agg z15)
  )
theorem ptr_impl_shop_store_eq (C : Comb) (x0 : Addr) : fT C Tryz.prog { loop := [(3, [(12, (.int .i64))])], join := [], anyOrder := [5], pure := [] } n_ptr_impl_shop_store [(.pointer (some x0))] = ptr_impl_shop_store C x0 := by kernel_rfl
theorem ptr_impl_shop_store_calls {R : Value → World → Prop} {w : World} (x0 : Addr) (h : (ptr_impl_shop_store (real Tryz.prog R) x0 : World → Prop) w) :
    Calls Tryz.prog n_ptr_impl_shop_store [(.pointer (some x0))].toArray w fun e w' => ∃ v, e = .returned v ∧ R v w' := fT_sound mixed { loop := [(3, [(12, (.int .i64))])], join := [], anyOrder := [5], pure := [] } (by rw [ptr_impl_shop_store_eq]; exact h)

/-- impl.NodeKey (130) -/
def impl_NodeKey (C : Comb) (x0 : Array Value) (x1 : Array Value) : C.St :=
  C.new ty_impl_Key (.agg x0) fun b2 =>
  C.new ty_impl_Key (.agg x1) fun b3 =>
  C.new ty_impl_Key (.agg (Array.replicate 32 (.int .u8 0))) fun b4 =>
  C.ld .agg 32 (Addr.mk b2 0 none) fun v5 =>
  C.ld .agg 32 (Addr.mk b3 0 none) fun v6 =>
  C.call n_impl_PairKey [(.int .u8 2), (.agg v5), (.agg v6)] [.agg] fun r7 =>
  C.st 32 (Addr.mk b4 0 none) (.agg r7) <|
  C.ld .agg 32 (Addr.mk b4 0 none) fun z7 =>
  C.ret (.agg z7)
theorem impl_NodeKey_eq (C : Comb) (x0 : Array Value) (x1 : Array Value) : fT C Tryz.prog { loop := [], join := [], anyOrder := [], pure := [] } n_impl_NodeKey [(.agg x0), (.agg x1)] = impl_NodeKey C x0 x1 := by kernel_rfl
theorem impl_NodeKey_calls {R : Value → World → Prop} {w : World} (x0 : Array Value) (x1 : Array Value) (h : (impl_NodeKey (real Tryz.prog R) x0 x1 : World → Prop) w) :
    Calls Tryz.prog n_impl_NodeKey [(.agg x0), (.agg x1)].toArray w fun e w' => ∃ v, e = .returned v ∧ R v w' := fT_sound mixed { loop := [], join := [], anyOrder := [], pure := [] } (by rw [impl_NodeKey_eq]; exact h)

/-- spec.l04Entry (131) -/
def spec_l04Entry (C : Comb) (x0 : Addr) : C.St :=
  C.ld .str 1 (x0.add 0) fun v6 =>
  C.call n_spec_l04Name [(.string v6)] [.bool] fun r7 =>
  cond r7 (
    C.ld .str 1 (x0.add 1) fun v12 =>
    C.ret (.bool (decide ((v12.size : Int) ≤ 64)))
  ) (
    C.ret (.bool false)
  )
theorem spec_l04Entry_eq (C : Comb) (x0 : Addr) : fT C Tryz.prog { loop := [], join := [], anyOrder := [], pure := [] } n_spec_l04Entry [(.pointer (some x0))] = spec_l04Entry C x0 := by kernel_rfl
theorem spec_l04Entry_calls {R : Value → World → Prop} {w : World} (x0 : Addr) (h : (spec_l04Entry (real Tryz.prog R) x0 : World → Prop) w) :
    Calls Tryz.prog n_spec_l04Entry [(.pointer (some x0))].toArray w fun e w' => ∃ v, e = .returned v ∧ R v w' := fT_sound mixed { loop := [], join := [], anyOrder := [], pure := [] } (by rw [spec_l04Entry_eq]; exact h)

/-- spec.l04Empty (132) -/
def spec_l04Empty (C : Comb)  : C.St :=
  C.new ty_impl_Key (.agg (Array.replicate 32 (.int .u8 0))) fun b0 =>
  C.sem (Instr.buildSlice ty_sl_uint8 0 #[]) .slice fun y1 =>
  C.call n_spec_l01Hash [(.int .u8 5), (.slice y1.a y1.n y1.c)] [.agg] fun r2 =>
  C.st 32 (Addr.mk b0 0 none) (.agg r2) <|
  C.ld .agg 32 (Addr.mk b0 0 none) fun z4 =>
  C.ret (.agg z4)
theorem spec_l04Empty_eq (C : Comb)  : fT C Tryz.prog { loop := [], join := [], anyOrder := [], pure := [] } n_spec_l04Empty [] = spec_l04Empty C  := by kernel_rfl
theorem spec_l04Empty_calls {R : Value → World → Prop} {w : World}  (h : (spec_l04Empty (real Tryz.prog R)  : World → Prop) w) :
    Calls Tryz.prog n_spec_l04Empty [].toArray w fun e w' => ∃ v, e = .returned v ∧ R v w' := fT_sound mixed { loop := [], join := [], anyOrder := [], pure := [] } (by rw [spec_l04Empty_eq]; exact h)

/-- spec.l04Top (133) -/
def spec_l04Top (C : Comb) (x0 : Sl) : C.St :=
  C.ix x0.a x0.n 2 0 fun p8 =>
  C.ld .str 1 (p8.add 0) fun v10 =>
  C.call n_spec_l04Priority [(.string v10)] [.agg] fun r11 =>
  C.new ty_impl_Key (.agg (Array.replicate 32 (.int .u8 0))) fun b4 =>
  C.st 32 (Addr.mk b4 0 none) (.agg r11) <|
  C.loop (TL [(.int .i64), (.int .i64)]) (embL [(.int .i64), (.int .i64)]) [(.int .i64 0), (.int .i64 1)] fun s5 ct5 => C.any fun _ =>
  cond (decide (s5.2 < (x0.n : Int))) (
    C.ix x0.a x0.n 2 s5.2 fun p20 =>
    C.ld .str 1 (p20.add 0) fun v22 =>
    C.call n_spec_l04Priority [(.string v22)] [.agg] fun r23 =>
    C.new ty_impl_Key (.agg (Array.replicate 32 (.int .u8 0))) fun b6 =>
    C.st 32 (Addr.mk b6 0 none) (.agg r23) <|
    C.ld .agg 32 (Addr.mk b6 0 none) fun v24 =>
    C.ld .agg 32 (Addr.mk b4 0 none) fun v25 =>
    C.call n_spec_l01Compare [(.agg v24), (.agg v25)] [(.int .i64)] fun r26 =>
    cond (decide (r26 > 0)) (
      C.ld .agg 32 (Addr.mk b6 0 none) fun v29 =>
      C.st 32 (Addr.mk b4 0 none) (.agg v29) <|
      ct5 [(.int .i64 s5.2), (.int .i64 (IntKind.wrap .i64 (s5.2 + 1)))]
    ) (
      ct5 [(.int .i64 s5.1), (.int .i64 (IntKind.wrap .i64 (s5.2 + 1)))]
    )
  ) (
    C.ret (.int .i64 s5.1)
  )
theorem spec_l04Top_eq (C : Comb) (x0 : Sl) : fT C Tryz.prog { loop := [(4, [(3, (.int .i64)), (5, (.int .i64))])], join := [], anyOrder := [], pure := [] } n_spec_l04Top [(.slice x0.a x0.n x0.c)] = spec_l04Top C x0 := by kernel_rfl
theorem spec_l04Top_calls {R : Value → World → Prop} {w : World} (x0 : Sl) (h : (spec_l04Top (real Tryz.prog R) x0 : World → Prop) w) :
    Calls Tryz.prog n_spec_l04Top [(.slice x0.a x0.n x0.c)].toArray w fun e w' => ∃ v, e = .returned v ∧ R v w' := fT_sound mixed { loop := [(4, [(3, (.int .i64)), (5, (.int .i64))])], join := [], anyOrder := [], pure := [] } (by rw [spec_l04Top_eq]; exact h)

/-- spec.l04NodeKey (134) -/
def spec_l04NodeKey (C : Comb) (x0 : Addr) : C.St :=
  C.new ty_impl_Key (.agg (Array.replicate 32 (.int .u8 0))) fun b2 =>
  C.call n_spec_l04Bytes [(.pointer (some x0))] [.slice] fun r4 =>
  C.call n_spec_l01Hash [(.int .u8 5), (.slice r4.a r4.n r4.c)] [.agg] fun r5 =>
  C.st 32 (Addr.mk b2 0 none) (.agg r5) <|
  C.ld .agg 32 (Addr.mk b2 0 none) fun z4 =>
  C.ret (.agg z4)
theorem spec_l04NodeKey_eq (C : Comb) (x0 : Addr) : fT C Tryz.prog { loop := [], join := [], anyOrder := [], pure := [] } n_spec_l04NodeKey [(.pointer (some x0))] = spec_l04NodeKey C x0 := by kernel_rfl
theorem spec_l04NodeKey_calls {R : Value → World → Prop} {w : World} (x0 : Addr) (h : (spec_l04NodeKey (real Tryz.prog R) x0 : World → Prop) w) :
    Calls Tryz.prog n_spec_l04NodeKey [(.pointer (some x0))].toArray w fun e w' => ∃ v, e = .returned v ∧ R v w' := fT_sound mixed { loop := [], join := [], anyOrder := [], pure := [] } (by rw [spec_l04NodeKey_eq]; exact h)

/-- impl.ValidEntry (135) -/
def impl_ValidEntry (C : Comb) (x0 : Array Value) : C.St :=
  C.new ty_impl_Entry (.agg x0) fun b1 =>
  C.ld .str 1 ((Addr.mk b1 0 none).add 0) fun v4 =>
  C.call n_impl_isName [(.string v4)] [.bool] fun r5 =>
  cond r5 (
    C.ld .str 1 ((Addr.mk b1 0 none).add 1) fun v8 =>
    C.ret (.bool (decide ((v8.size : Int) ≤ 64)))
  ) (
    C.ret (.bool false)
  )
theorem impl_ValidEntry_eq (C : Comb) (x0 : Array Value) : fT C Tryz.prog { loop := [], join := [], anyOrder := [], pure := [] } n_impl_ValidEntry [(.agg x0)] = impl_ValidEntry C x0 := by kernel_rfl
theorem impl_ValidEntry_calls {R : Value → World → Prop} {w : World} (x0 : Array Value) (h : (impl_ValidEntry (real Tryz.prog R) x0 : World → Prop) w) :
    Calls Tryz.prog n_impl_ValidEntry [(.agg x0)].toArray w fun e w' => ∃ v, e = .returned v ∧ R v w' := fT_sound mixed { loop := [], join := [], anyOrder := [], pure := [] } (by rw [impl_ValidEntry_eq]; exact h)

/-- impl.allNodes$1 (136) -/
def impl_allNodes_1 (C : Comb) (x0 : ByteArray) : C.St :=
  C.ret (.bool true)
theorem impl_allNodes_1_eq (C : Comb) (x0 : ByteArray) : fT C Tryz.prog { loop := [], join := [], anyOrder := [], pure := [] } n_impl_allNodes_1 [(.string x0)] = impl_allNodes_1 C x0 := by kernel_rfl
theorem impl_allNodes_1_calls {R : Value → World → Prop} {w : World} (x0 : ByteArray) (h : (impl_allNodes_1 (real Tryz.prog R) x0 : World → Prop) w) :
    Calls Tryz.prog n_impl_allNodes_1 [(.string x0)].toArray w fun e w' => ∃ v, e = .returned v ∧ R v w' := fT_sound mixed { loop := [], join := [], anyOrder := [], pure := [] } (by rw [impl_allNodes_1_eq]; exact h)

/-- (*impl.tree).nodes (137) -/
def ptr_impl_tree_nodes (C : Comb) (x0 : Option Addr) (x1 : Value) (x2 : Value) : C.St :=
  C.pur (eqB .eql ty_ptr_impl_tree (.tmp 8) (.const (.pointer none)) (.pointer x0) (.pointer none)) .bool fun y9 =>
  cond y9 (
    C.ret (.slice none 0 0)
  ) (
    dpT C x0 fun a2 =>
    C.ld .agg 66 (a2.add 0) fun v13 =>
    C.sem (Instr.buildSlice ty_sl_impl_MapNode 1 #[(0, (.agg v13))]) .slice fun y14 =>
    C.join (TL [.slice]) (embL [.slice]) (fun s12 => C.any fun _ =>
        dpT C x0 fun a13 =>
        C.ld .str 1 (((a13.add 0).add 64).add 0) fun v38 =>
        C.callV x2 [(.string v38)] [.bool] fun r39 =>
        cond r39 (
          dpT C x0 fun a16 =>
          C.ld .optr 1 (a16.add 67) fun v44 =>
          C.call n_ptr_impl_tree_nodes [(.pointer v44), x1, x2] [.slice] fun r47 =>
          C.sem (Builtin.append_ #[ty_sl_impl_MapNode, ty_sl_impl_MapNode] ty_sl_impl_MapNode #[(.slice s12.a s12.n s12.c), (.slice r47.a r47.n r47.c)]) .slice fun y48 =>
          C.ret (.slice y48.a y48.n y48.c)
        ) (
          C.ret (.slice s12.a s12.n s12.c)
        )
      ) fun jt =>
    dpT C x0 fun a5 =>
    C.ld .str 1 (((a5.add 0).add 64).add 0) fun v21 =>
    C.callV x1 [(.string v21)] [.bool] fun r22 =>
    cond r22 (
      dpT C x0 fun a8 =>
      C.ld .optr 1 (a8.add 66) fun v27 =>
      C.call n_ptr_impl_tree_nodes [(.pointer v27), x1, x2] [.slice] fun r30 =>
      C.sem (Builtin.append_ #[ty_sl_impl_MapNode, ty_sl_impl_MapNode] ty_sl_impl_MapNode #[(.slice y14.a y14.n y14.c), (.slice r30.a r30.n r30.c)]) .slice fun y31 =>
      jt [(.slice y31.a y31.n y31.c)]
    ) (
      jt [(.slice y14.a y14.n y14.c)]
    )
  )
theorem ptr_impl_tree_nodes_eq (C : Comb) (x0 : Option Addr) (x1 : Value) (x2 : Value) : fT C Tryz.prog { loop := [], join := [(66, [(7, .slice)])], anyOrder := [], pure := [] } n_ptr_impl_tree_nodes [(.pointer x0), x1, x2] = ptr_impl_tree_nodes C x0 x1 x2 := by kernel_rfl
theorem ptr_impl_tree_nodes_calls {R : Value → World → Prop} {w : World} (x0 : Option Addr) (x1 : Value) (x2 : Value) (h : (ptr_impl_tree_nodes (real Tryz.prog R) x0 x1 x2 : World → Prop) w) :
    Calls Tryz.prog n_ptr_impl_tree_nodes [(.pointer x0), x1, x2].toArray w fun e w' => ∃ v, e = .returned v ∧ R v w' := fT_sound mixed { loop := [], join := [(66, [(7, .slice)])], anyOrder := [], pure := [] } (by rw [ptr_impl_tree_nodes_eq]; exact h)

/-- impl.grow (138) -/
def impl_grow (C : Comb) (x0 : Sl) (x1 : Sl) : C.St :=
  cond ((x0.n : Int) == 0) (
    C.ret (.pointer none)
  ) (
    C.loop (TL [(.int .i64), (.int .i64)]) (embL [(.int .i64), (.int .i64)]) [(.int .i64 0), (.int .i64 0)] fun s1 ct1 => C.any fun _ =>
    cond (decide (s1.2 < (x1.n : Int))) (
      C.ix x1.a x1.n 32 s1.2 fun p17 =>
      C.ld .agg 32 p17 fun v18 =>
      C.new ty_impl_Key (.agg (Array.replicate 32 (.int .u8 0))) fun b7 =>
      C.st 32 (Addr.mk b7 0 none) (.agg v18) <|
      C.draw <|
      C.ld .agg 32 (Addr.mk b7 0 none) fun v19 =>
      C.ix x1.a x1.n 32 s1.1 fun p22 =>
      C.ld .agg 32 p22 fun v23 =>
      C.call n_impl_compareKeys [(.agg v19), (.agg v23)] [(.int .i64)] fun r24 =>
      cond (decide (r24 > 0)) (
        ct1 [(.int .i64 s1.2), (.int .i64 (IntKind.wrap .i64 (s1.2 + 1)))]
      ) (
        ct1 [(.int .i64 s1.1), (.int .i64 (IntKind.wrap .i64 (s1.2 + 1)))]
      )
    ) (
      C.join (TL [.ptr]) (embL [.ptr]) (fun s17 => C.any fun _ =>
          C.draw <|
          C.ld .optr 1 (s17.add 66) fun v50 =>
          C.ld .optr 1 (s17.add 67) fun v55 =>
          C.ix x0.a x0.n 2 s1.1 fun p59 =>
          C.ld .agg 2 p59 fun v60 =>
          C.call n_ptr_impl_tree_key [(.pointer v50)] [.agg] fun r51 =>
          C.chk [⟨14, 2, p59, .agg, v60⟩, ⟨9, 1, (s17.add 67), .optr, v55⟩] <|
          C.call n_ptr_impl_tree_key [(.pointer v55)] [.agg] fun r56 =>
          C.chk [⟨14, 2, p59, .agg, v60⟩] <|
          C.pur (Instr.build ty_impl_MapNode #[(0, (.agg r51)), (1, (.agg r56)), (2, (.agg v60))]) .agg fun y61 =>
          C.st 66 (s17.add 0) (.agg y61) <|
          C.ret (.pointer (some s17))
        ) fun jt =>
      C.draw <|
      C.sl x0.a x0.n x0.c 2 none (some s1.1) none fun y30 =>
      C.sl x1.a x1.n x1.c 32 none (some s1.1) none fun y33 =>
      C.sl x0.a x0.n x0.c 2 (some (IntKind.wrap .i64 (s1.1 + 1))) none none fun y38 =>
      C.sl x1.a x1.n x1.c 32 (some (IntKind.wrap .i64 (s1.1 + 1))) none none fun y42 =>
      C.call n_impl_grow [(.slice y30.a y30.n y30.c), (.slice y33.a y33.n y33.c)] [.optr] fun r34 =>
      C.call n_impl_grow [(.slice y38.a y38.n y38.c), (.slice y42.a y42.n y42.c)] [.optr] fun r43 =>
      C.pur (Instr.build ty_impl_tree #[(1, (.pointer r34)), (2, (.pointer r43))]) .agg fun y44 =>
      C.new ty_impl_tree (.agg y44) fun b45 =>
      jt [(.pointer (some (Addr.mk b45 0 none)))]
    )
  )
theorem impl_grow_eq (C : Comb) (x0 : Sl) (x1 : Sl) : fT C Tryz.prog { loop := [(5, [(5, (.int .i64)), (14, (.int .i64))])], join := [(31, [(8, .ptr)])], anyOrder := [7, 10, 11], pure := [] } n_impl_grow [(.slice x0.a x0.n x0.c), (.slice x1.a x1.n x1.c)] = impl_grow C x0 x1 := by kernel_rfl
theorem impl_grow_calls {R : Value → World → Prop} {w : World} (x0 : Sl) (x1 : Sl) (h : (impl_grow (real Tryz.prog R) x0 x1 : World → Prop) w) :
    Calls Tryz.prog n_impl_grow [(.slice x0.a x0.n x0.c), (.slice x1.a x1.n x1.c)].toArray w fun e w' => ∃ v, e = .returned v ∧ R v w' := fT_sound mixed { loop := [(5, [(5, (.int .i64)), (14, (.int .i64))])], join := [(31, [(8, .ptr)])], anyOrder := [7, 10, 11], pure := [] } (by rw [impl_grow_eq]; exact h)

/-- impl.EmptyMapKey (139) -/
def impl_EmptyMapKey (C : Comb)  : C.St :=
  C.new ty_impl_Key (.agg (Array.replicate 32 (.int .u8 0))) fun b0 =>
  C.call n_impl_hash [(.int .u8 5), (.slice none 0 0)] [.agg] fun r1 =>
  C.st 32 (Addr.mk b0 0 none) (.agg r1) <|
  C.ld .agg 32 (Addr.mk b0 0 none) fun z3 =>
  C.ret (.agg z3)
theorem impl_EmptyMapKey_eq (C : Comb)  : fT C Tryz.prog { loop := [], join := [], anyOrder := [], pure := [] } n_impl_EmptyMapKey [] = impl_EmptyMapKey C  := by kernel_rfl
theorem impl_EmptyMapKey_calls {R : Value → World → Prop} {w : World}  (h : (impl_EmptyMapKey (real Tryz.prog R)  : World → Prop) w) :
    Calls Tryz.prog n_impl_EmptyMapKey [].toArray w fun e w' => ∃ v, e = .returned v ∧ R v w' := fT_sound mixed { loop := [], join := [], anyOrder := [], pure := [] } (by rw [impl_EmptyMapKey_eq]; exact h)

/-- (impl.MapNode).key (140) -/
def impl_MapNode_key (C : Comb) (x0 : Array Value) : C.St :=
  C.new ty_impl_MapNode (.agg x0) fun b1 =>
  C.new ty_impl_Key (.agg (Array.replicate 32 (.int .u8 0))) fun b2 =>
  C.ld .agg 66 (Addr.mk b1 0 none) fun v3 =>
  C.call n_impl_MapNode_bytes [(.agg v3)] [.slice] fun r4 =>
  C.call n_impl_hash [(.int .u8 5), (.slice r4.a r4.n r4.c)] [.agg] fun r5 =>
  C.st 32 (Addr.mk b2 0 none) (.agg r5) <|
  C.ld .agg 32 (Addr.mk b2 0 none) fun z6 =>
  C.ret (.agg z6)
theorem impl_MapNode_key_eq (C : Comb) (x0 : Array Value) : fT C Tryz.prog { loop := [], join := [], anyOrder := [], pure := [] } n_impl_MapNode_key [(.agg x0)] = impl_MapNode_key C x0 := by kernel_rfl
theorem impl_MapNode_key_calls {R : Value → World → Prop} {w : World} (x0 : Array Value) (h : (impl_MapNode_key (real Tryz.prog R) x0 : World → Prop) w) :
    Calls Tryz.prog n_impl_MapNode_key [(.agg x0)].toArray w fun e w' => ∃ v, e = .returned v ∧ R v w' := fT_sound mixed { loop := [], join := [], anyOrder := [], pure := [] } (by rw [impl_MapNode_key_eq]; exact h)

/-- (*spec.l05Load).tree (141) -/
def ptr_spec_l05Load_tree (C : Comb) (x0 : Addr) (x1 : Array Value) (x2 : ByteArray) (x3 : ByteArray) (x4 : Bool) : C.St :=
  C.new ty_impl_Key (.agg x1) fun b6 =>
  C.join (TL []) (embL []) (fun s9 => C.any fun _ =>
      C.join (TL [(.int .i64)]) (embL [(.int .i64)]) (fun s13 => C.any fun _ =>
          cond (decide (s13 < 0)) (
            C.ld .agg 32 (Addr.mk b6 0 none) fun v32 =>
            C.st 32 (x0.add 3) (.agg v32) <|
            C.st 1 (x0.add 35) (.int .i64 6) <|
            C.ret (.tuple #[])
          ) (
            C.ld (.int .i64) 1 (x0.add 2) fun v41 =>
            C.st 1 (x0.add 2) (.int .i64 (IntKind.wrap .i64 (v41 + 1))) <|
            C.ld .ptr 1 (x0.add 0) fun v49 =>
            C.ld .slice 1 (v49.add 0) fun v52 =>
            C.ix v52.a v52.n 2 s13 fun p54 =>
            C.ld .slice 1 (p54.add 1) fun v56 =>
            C.call n_spec_l04Read [(.slice v56.a v56.n v56.c)] [.agg, .bool] fun r57 =>
            C.new ty_impl_MapNode (.agg (#[(.int .u8 0), (.int .u8 0), (.int .u8 0), (.int .u8 0), (.int .u8 0), (.int .u8 0), (.int .u8 0), (.int .u8 0), (.int .u8 0), (.int .u8 0), (.int .u8 0), (.int .u8 0), (.int .u8 0), (.int .u8 0), (.int .u8 0), (.int .u8 0), (.int .u8 0), (.int .u8 0), (.int .u8 0), (.int .u8 0), (.int .u8 0), (.int .u8 0), (.int .u8 0), (.int .u8 0), (.int .u8 0), (.int .u8 0), (.int .u8 0), (.int .u8 0), (.int .u8 0), (.int .u8 0), (.int .u8 0), (.int .u8 0), (.int .u8 0), (.int .u8 0), (.int .u8 0), (.int .u8 0), (.int .u8 0), (.int .u8 0), (.int .u8 0), (.int .u8 0), (.int .u8 0), (.int .u8 0), (.int .u8 0), (.int .u8 0), (.int .u8 0), (.int .u8 0), (.int .u8 0), (.int .u8 0), (.int .u8 0), (.int .u8 0), (.int .u8 0), (.int .u8 0), (.int .u8 0), (.int .u8 0), (.int .u8 0), (.int .u8 0), (.int .u8 0), (.int .u8 0), (.int .u8 0), (.int .u8 0), (.int .u8 0), (.int .u8 0), (.int .u8 0), (.int .u8 0), (.string (⟨#[]⟩ : ByteArray)), (.string (⟨#[]⟩ : ByteArray))])) fun b11 =>
            C.st 66 (Addr.mk b11 0 none) (.agg r57.1) <|
            C.join (TL []) (embL []) (fun s31 => C.any fun _ =>
                C.ld .agg 32 ((Addr.mk b11 0 none).add 0) fun v105 =>
                C.ld .str 1 (((Addr.mk b11 0 none).add 64).add 0) fun v109 =>
                C.call n_ptr_spec_l05Load_tree [(.pointer (some x0)), (.agg v105), (.string x2), (.string v109), (.bool true)] [] fun r110 =>
                C.join (TL []) (embL []) (fun s39 => C.any fun _ =>
                    C.ld .agg 32 ((Addr.mk b11 0 none).add 32) fun v124 =>
                    C.ld .str 1 (((Addr.mk b11 0 none).add 64).add 0) fun v127 =>
                    C.call n_ptr_spec_l05Load_tree [(.pointer (some x0)), (.agg v124), (.string v127), (.string x3), (.bool x4)] [] fun r130 =>
                    C.ret (.tuple #[])
                  ) fun jt =>
                C.draw <|
                C.ld .slice 1 (x0.add 1) fun v115 =>
                C.ld .agg 2 ((Addr.mk b11 0 none).add 64) fun v117 =>
                C.sem (Instr.buildSlice ty_sl_impl_Entry 1 #[(0, (.agg v117))]) .slice fun y118 =>
                C.chk [⟨4, 1, (x0.add 1), .slice, v115⟩] <|
                C.sem (Builtin.append_ #[ty_sl_impl_Entry, ty_sl_impl_Entry] ty_sl_impl_Entry #[(.slice v115.a v115.n v115.c), (.slice y118.a y118.n y118.c)]) .slice fun y119 =>
                C.st 1 (x0.add 1) (.slice y119.a y119.n y119.c) <|
                jt []
              ) fun jt =>
            cond (!r57.2) (
              C.st 1 (x0.add 35) (.int .i64 8) <|
              C.ret (.tuple #[])
            ) (
              C.ld .ptr 1 (x0.add 0) fun v66 =>
              C.ld .slice 1 (v66.add 0) fun v69 =>
              C.ix v69.a v69.n 2 s13 fun p71 =>
              C.ld (.int .u8) 1 (p71.add 0) fun v73 =>
              cond (v73 != 5) (
                C.st 1 (x0.add 35) (.int .i64 8) <|
                C.ret (.tuple #[])
              ) (
                C.ld (.int .i64) 1 (x0.add 2) fun v80 =>
                cond (decide (v80 > 64)) (
                  C.st 1 (x0.add 35) (.int .i64 8) <|
                  C.ret (.tuple #[])
                ) (
                  C.ld .str 1 (((Addr.mk b11 0 none).add 64).add 0) fun v86 =>
                  C.pur (eqB .leq ty_string (.tmp 86) (.tmp 87) (.string v86) (.string x2)) .bool fun y88 =>
                  cond y88 (
                    C.st 1 (x0.add 35) (.int .i64 8) <|
                    C.ret (.tuple #[])
                  ) (
                    cond x4 (
                      C.ld .str 1 (((Addr.mk b11 0 none).add 64).add 0) fun v95 =>
                      C.pur (eqB .geq ty_string (.tmp 95) (.tmp 96) (.string v95) (.string x3)) .bool fun y97 =>
                      cond y97 (
                        C.st 1 (x0.add 35) (.int .i64 8) <|
                        C.ret (.tuple #[])
                      ) (
                        jt []
                      )
                    ) (
                      jt []
                    )
                  )
                )
              )
            )
          )
        ) fun jt =>
      C.draw <|
      C.ld .ptr 1 (x0.add 0) fun v26 =>
      C.ld .agg 32 (Addr.mk b6 0 none) fun v27 =>
      C.call n_ptr_spec_l05Store_find [(.pointer (some v26)), (.agg v27)] [(.int .i64)] fun r28 =>
      jt [(.int .i64 r28)]
    ) fun jt =>
  C.draw <|
  C.ld (.int .i64) 1 (x0.add 35) fun v16 =>
  C.all [
    (cond (v16 != 0) (
       C.chk [⟨3, 1, (x0.add 35), (.int .i64), v16⟩] <|
       C.chk [⟨3, 1, (x0.add 35), (.int .i64), v16⟩] <|
       C.ret (.tuple #[])
     ) (
       C.ld .agg 32 (Addr.mk b6 0 none) fun v19 =>
       C.chk [⟨3, 1, (x0.add 35), (.int .i64), v16⟩] <|
       C.call n_spec_l04Empty [] [.agg] fun r20 =>
       C.chk [⟨3, 1, (x0.add 35), (.int .i64), v16⟩] <|
       C.pur (eqB .eql ty_impl_Key (.tmp 19) (.tmp 20) (.agg v19) (.agg r20)) .bool fun y21 =>
       cond y21 (
         C.ret (.tuple #[])
       ) (
         jt []
       )
     )),
    (cond (v16 != 0) (
       C.chk [⟨3, 1, (x0.add 35), (.int .i64), v16⟩] <|
       C.chk [⟨3, 1, (x0.add 35), (.int .i64), v16⟩] <|
       C.ret (.tuple #[])
     ) (
       C.call n_spec_l04Empty [] [.agg] fun r20 =>
       C.chk [⟨3, 1, (x0.add 35), (.int .i64), v16⟩] <|
       C.ld .agg 32 (Addr.mk b6 0 none) fun v19 =>
       C.chk [⟨3, 1, (x0.add 35), (.int .i64), v16⟩] <|
       C.pur (eqB .eql ty_impl_Key (.tmp 19) (.tmp 20) (.agg v19) (.agg r20)) .bool fun y21 =>
       cond y21 (
         C.ret (.tuple #[])
       ) (
         jt []
       )
     ))]
theorem ptr_spec_l05Load_tree_eq (C : Comb) (x0 : Addr) (x1 : Array Value) (x2 : ByteArray) (x3 : ByteArray) (x4 : Bool) : fT C Tryz.prog { loop := [], join := [(66, []), (7, [(10, (.int .i64))]), (297, []), (34, [])], anyOrder := [1, 2, 11], pure := [] } n_ptr_spec_l05Load_tree [(.pointer (some x0)), (.agg x1), (.string x2), (.string x3), (.bool x4)] = ptr_spec_l05Load_tree C x0 x1 x2 x3 x4 := by kernel_rfl
theorem ptr_spec_l05Load_tree_calls {R : Value → World → Prop} {w : World} (x0 : Addr) (x1 : Array Value) (x2 : ByteArray) (x3 : ByteArray) (x4 : Bool) (h : (ptr_spec_l05Load_tree (real Tryz.prog R) x0 x1 x2 x3 x4 : World → Prop) w) :
    Calls Tryz.prog n_ptr_spec_l05Load_tree [(.pointer (some x0)), (.agg x1), (.string x2), (.string x3), (.bool x4)].toArray w fun e w' => ∃ v, e = .returned v ∧ R v w' := fT_sound mixed { loop := [], join := [(66, []), (7, [(10, (.int .i64))]), (297, []), (34, [])], anyOrder := [1, 2, 11], pure := [] } (by rw [ptr_spec_l05Load_tree_eq]; exact h)

/-- (*impl.mapper).load$1 (142) -/
def ptr_impl_mapper_load_1 (C : Comb) (x0 : ByteArray) : C.St :=
  C.ret (.bool true)
theorem ptr_impl_mapper_load_1_eq (C : Comb) (x0 : ByteArray) : fT C Tryz.prog { loop := [], join := [], anyOrder := [], pure := [] } n_ptr_impl_mapper_load_1 [(.string x0)] = ptr_impl_mapper_load_1 C x0 := by kernel_rfl
theorem ptr_impl_mapper_load_1_calls {R : Value → World → Prop} {w : World} (x0 : ByteArray) (h : (ptr_impl_mapper_load_1 (real Tryz.prog R) x0 : World → Prop) w) :
    Calls Tryz.prog n_ptr_impl_mapper_load_1 [(.string x0)].toArray w fun e w' => ∃ v, e = .returned v ∧ R v w' := fT_sound mixed { loop := [], join := [], anyOrder := [], pure := [] } (by rw [ptr_impl_mapper_load_1_eq]; exact h)

/-- (*impl.mapper).load$2 (143) -/
def ptr_impl_mapper_load_2 (C : Comb) (x0 : Array Value) : C.St :=
  C.new ty_impl_MapNode (.agg x0) fun b1 =>
  C.ret (.tuple #[])
theorem ptr_impl_mapper_load_2_eq (C : Comb) (x0 : Array Value) : fT C Tryz.prog { loop := [], join := [], anyOrder := [], pure := [] } n_ptr_impl_mapper_load_2 [(.agg x0)] = ptr_impl_mapper_load_2 C x0 := by kernel_rfl
theorem ptr_impl_mapper_load_2_calls {R : Value → World → Prop} {w : World} (x0 : Array Value) (h : (ptr_impl_mapper_load_2 (real Tryz.prog R) x0 : World → Prop) w) :
    Calls Tryz.prog n_ptr_impl_mapper_load_2 [(.agg x0)].toArray w fun e w' => ∃ v, e = .returned v ∧ R v w' := fT_sound mixed { loop := [], join := [], anyOrder := [], pure := [] } (by rw [ptr_impl_mapper_load_2_eq]; exact h)

/-- (*impl.mapper).load$3 (144) -/
def ptr_impl_mapper_load_3 (C : Comb) (x0 : Array Value) (x1 : Addr) : C.St :=
  C.new ty_impl_Entry (.agg x0) fun b2 =>
  C.ld .slice 1 x1 fun v3 =>
  C.ld .agg 2 (Addr.mk b2 0 none) fun v4 =>
  C.sem (Instr.buildSlice ty_sl_impl_Entry 1 #[(0, (.agg v4))]) .slice fun y5 =>
  C.sem (Builtin.append_ #[ty_sl_impl_Entry, ty_sl_impl_Entry] ty_sl_impl_Entry #[(.slice v3.a v3.n v3.c), (.slice y5.a y5.n y5.c)]) .slice fun y6 =>
  C.st 1 x1 (.slice y6.a y6.n y6.c) <|
  C.ret (.tuple #[])
theorem ptr_impl_mapper_load_3_eq (C : Comb) (x0 : Array Value) (x1 : Addr) : fT C Tryz.prog { loop := [], join := [], anyOrder := [], pure := [] } n_ptr_impl_mapper_load_3 [(.agg x0), (.pointer (some x1))] = ptr_impl_mapper_load_3 C x0 x1 := by kernel_rfl
theorem ptr_impl_mapper_load_3_calls {R : Value → World → Prop} {w : World} (x0 : Array Value) (x1 : Addr) (h : (ptr_impl_mapper_load_3 (real Tryz.prog R) x0 x1 : World → Prop) w) :
    Calls Tryz.prog n_ptr_impl_mapper_load_3 [(.agg x0), (.pointer (some x1))].toArray w fun e w' => ∃ v, e = .returned v ∧ R v w' := fT_sound mixed { loop := [], join := [], anyOrder := [], pure := [] } (by rw [ptr_impl_mapper_load_3_eq]; exact h)

/-- spec.l08Path (145) -/
def spec_l08Path (C : Comb) (x0 : Addr) (x1 : Array Value) (x2 : ByteArray) : C.St :=
  C.new ty_impl_Key (.agg x1) fun b4 =>
  C.new ty_impl_Key (.agg (Array.replicate 32 (.int .u8 0))) fun b7 =>
  C.sem (Instr.buildSlice ty_sl_impl_MapNode 0 #[]) .slice fun y13 =>
  C.ld .agg 32 (Addr.mk b4 0 none) fun v14 =>
  C.new ty_impl_Key (.agg (Array.replicate 32 (.int .u8 0))) fun b10 =>
  C.st 32 (Addr.mk b10 0 none) (.agg v14) <|
  C.loop (TL [.slice, .ptr]) (embL [.slice, .ptr]) [(.slice y13.a y13.n y13.c), (.pointer (some (Addr.mk b10 0 none)))] fun s6 ct6 => C.any fun _ =>
  C.join (TL []) (embL []) (fun s11 => C.any fun _ =>
      C.ld .agg 32 s6.2 fun v20 =>
      C.call n_spec_l08Node [(.pointer (some x0)), (.agg v20)] [.agg, (.int .i64)] fun r21 =>
      C.new ty_impl_MapNode (.agg (#[(.int .u8 0), (.int .u8 0), (.int .u8 0), (.int .u8 0), (.int .u8 0), (.int .u8 0), (.int .u8 0), (.int .u8 0), (.int .u8 0), (.int .u8 0), (.int .u8 0), (.int .u8 0), (.int .u8 0), (.int .u8 0), (.int .u8 0), (.int .u8 0), (.int .u8 0), (.int .u8 0), (.int .u8 0), (.int .u8 0), (.int .u8 0), (.int .u8 0), (.int .u8 0), (.int .u8 0), (.int .u8 0), (.int .u8 0), (.int .u8 0), (.int .u8 0), (.int .u8 0), (.int .u8 0), (.int .u8 0), (.int .u8 0), (.int .u8 0), (.int .u8 0), (.int .u8 0), (.int .u8 0), (.int .u8 0), (.int .u8 0), (.int .u8 0), (.int .u8 0), (.int .u8 0), (.int .u8 0), (.int .u8 0), (.int .u8 0), (.int .u8 0), (.int .u8 0), (.int .u8 0), (.int .u8 0), (.int .u8 0), (.int .u8 0), (.int .u8 0), (.int .u8 0), (.int .u8 0), (.int .u8 0), (.int .u8 0), (.int .u8 0), (.int .u8 0), (.int .u8 0), (.int .u8 0), (.int .u8 0), (.int .u8 0), (.int .u8 0), (.int .u8 0), (.int .u8 0), (.string (⟨#[]⟩ : ByteArray)), (.string (⟨#[]⟩ : ByteArray))])) fun b11 =>
      C.st 66 (Addr.mk b11 0 none) (.agg r21.1) <|
      cond (r21.2 == 4) (
        C.draw <|
        C.ld .agg 32 s6.2 fun v27 =>
        C.sem (Instr.buildSlice ty_sl_impl_MapNode 0 #[]) .slice fun y26 =>
        C.chk [⟨1, 32, s6.2, .agg, v27⟩] <|
        C.st 32 (Addr.mk b7 0 none) (.agg v27) <|
        C.ld .agg 32 (Addr.mk b7 0 none) fun z17 =>
        C.ret (.tuple #[(.slice y26.a y26.n y26.c), (.agg z17), (.int .i64 r21.2)])
      ) (
        cond (r21.2 != 0) (
          C.sem (Instr.buildSlice ty_sl_impl_MapNode 0 #[]) .slice fun y31 =>
          C.st 32 (Addr.mk b7 0 none) (.agg (Array.replicate 32 (.int .u8 0))) <|
          C.ld .agg 32 (Addr.mk b7 0 none) fun z19 =>
          C.ret (.tuple #[(.slice y31.a y31.n y31.c), (.agg z19), (.int .i64 r21.2)])
        ) (
          cond (decide ((s6.1.n : Int) ≥ 64)) (
            C.sem (Instr.buildSlice ty_sl_impl_MapNode 0 #[]) .slice fun y37 =>
            C.st 32 (Addr.mk b7 0 none) (.agg (Array.replicate 32 (.int .u8 0))) <|
            C.ld .agg 32 (Addr.mk b7 0 none) fun z21 =>
            C.ret (.tuple #[(.slice y37.a y37.n y37.c), (.agg z21), (.int .i64 8)])
          ) (
            C.ld .agg 66 (Addr.mk b11 0 none) fun v40 =>
            C.sem (Instr.buildSlice ty_sl_impl_MapNode 1 #[(0, (.agg v40))]) .slice fun y41 =>
            C.sem (Builtin.append_ #[ty_sl_impl_MapNode, ty_sl_impl_MapNode] ty_sl_impl_MapNode #[(.slice s6.1.a s6.1.n s6.1.c), (.slice y41.a y41.n y41.c)]) .slice fun y42 =>
            C.ld .str 1 (((Addr.mk b11 0 none).add 64).add 0) fun v48 =>
            C.pur (eqB .eql ty_string (.tmp 48) (.tmp 49) (.string v48) (.string x2)) .bool fun y50 =>
            cond y50 (
              C.st 32 (Addr.mk b7 0 none) (.agg (Array.replicate 32 (.int .u8 0))) <|
              C.ld .agg 32 (Addr.mk b7 0 none) fun z27 =>
              C.ret (.tuple #[(.slice y42.a y42.n y42.c), (.agg z27), (.int .i64 0)])
            ) (
              C.ld .str 1 (((Addr.mk b11 0 none).add 64).add 0) fun v57 =>
              C.pur (eqB .lss ty_string (.tmp 54) (.tmp 57) (.string x2) (.string v57)) .bool fun y58 =>
              cond y58 (
                C.ld .agg 32 ((Addr.mk b11 0 none).add 0) fun v60 =>
                C.st 32 s6.2 (.agg v60) <|
                C.ld .agg 32 s6.2 fun v61 =>
                C.new ty_impl_Key (.agg (Array.replicate 32 (.int .u8 0))) fun b10 =>
                C.st 32 (Addr.mk b10 0 none) (.agg v61) <|
                ct6 [(.slice y42.a y42.n y42.c), (.pointer (some (Addr.mk b10 0 none)))]
              ) (
                C.ld .agg 32 ((Addr.mk b11 0 none).add 32) fun v44 =>
                C.st 32 s6.2 (.agg v44) <|
                C.ld .agg 32 s6.2 fun v61 =>
                C.new ty_impl_Key (.agg (Array.replicate 32 (.int .u8 0))) fun b10 =>
                C.st 32 (Addr.mk b10 0 none) (.agg v61) <|
                ct6 [(.slice y42.a y42.n y42.c), (.pointer (some (Addr.mk b10 0 none)))]
              )
            )
          )
        )
      )
    ) fun jt =>
  C.draw <|
  C.ld .agg 32 s6.2 fun v15 =>
  C.call n_spec_l04Empty [] [.agg] fun r16 =>
  C.chk [⟨0, 32, s6.2, .agg, v15⟩] <|
  C.pur (eqB .neq ty_impl_Key (.tmp 15) (.tmp 16) (.agg v15) (.agg r16)) .bool fun y17 =>
  cond y17 (
    jt []
  ) (
    C.st 32 (Addr.mk b7 0 none) (.agg (Array.replicate 32 (.int .u8 0))) <|
    C.ld .agg 32 (Addr.mk b7 0 none) fun z10 =>
    C.ret (.tuple #[(.slice s6.1.a s6.1.n s6.1.c), (.agg z10), (.int .i64 0)])
  )
theorem spec_l08Path_eq (C : Comb) (x0 : Addr) (x1 : Array Value) (x2 : ByteArray) : fT C Tryz.prog { loop := [(3, [(9, .slice), (10, .ptr)])], join := [(51, [])], anyOrder := [3, 6], pure := [] } n_spec_l08Path [(.pointer (some x0)), (.agg x1), (.string x2)] = spec_l08Path C x0 x1 x2 := by kernel_rfl
theorem spec_l08Path_calls {R : Value → World → Prop} {w : World} (x0 : Addr) (x1 : Array Value) (x2 : ByteArray) (h : (spec_l08Path (real Tryz.prog R) x0 x1 x2 : World → Prop) w) :
    Calls Tryz.prog n_spec_l08Path [(.pointer (some x0)), (.agg x1), (.string x2)].toArray w fun e w' => ∃ v, e = .returned v ∧ R v w' := fT_sound mixed { loop := [(3, [(9, .slice), (10, .ptr)])], join := [(51, [])], anyOrder := [3, 6], pure := [] } (by rw [spec_l08Path_eq]; exact h)

/-- (*impl.mapper).descend (146) -/
def ptr_impl_mapper_descend (C : Comb) (x0 : Addr) (x1 : Array Value) (x2 : ByteArray) : C.St :=
  C.new ty_impl_Key (.agg x1) fun b4 =>
  C.sem (Instr.buildSlice ty_sl_impl_MapNode 0 #[]) .slice fun y11 =>
  C.loop (TL [.slice]) (embL [.slice]) [(.slice y11.a y11.n y11.c)] fun s3 ct3 => C.any fun _ =>
  C.draw <|
  C.ld .agg 32 (Addr.mk b4 0 none) fun v12 =>
  C.ld .agg 32 (x0.add 1) fun v16 =>
  C.pur (eqB .neq ty_impl_Key (.tmp 12) (.tmp 16) (.agg v12) (.agg v16)) .bool fun y17 =>
  cond y17 (
    C.ld .agg 32 (Addr.mk b4 0 none) fun v20 =>
    C.call n_ptr_impl_mapper_node [(.pointer (some x0)), (.agg v20), (.pointer none), (.pointer none)] [.agg, (.int .i64)] fun r21 =>
    C.new ty_impl_MapNode (.agg (#[(.int .u8 0), (.int .u8 0), (.int .u8 0), (.int .u8 0), (.int .u8 0), (.int .u8 0), (.int .u8 0), (.int .u8 0), (.int .u8 0), (.int .u8 0), (.int .u8 0), (.int .u8 0), (.int .u8 0), (.int .u8 0), (.int .u8 0), (.int .u8 0), (.int .u8 0), (.int .u8 0), (.int .u8 0), (.int .u8 0), (.int .u8 0), (.int .u8 0), (.int .u8 0), (.int .u8 0), (.int .u8 0), (.int .u8 0), (.int .u8 0), (.int .u8 0), (.int .u8 0), (.int .u8 0), (.int .u8 0), (.int .u8 0), (.int .u8 0), (.int .u8 0), (.int .u8 0), (.int .u8 0), (.int .u8 0), (.int .u8 0), (.int .u8 0), (.int .u8 0), (.int .u8 0), (.int .u8 0), (.int .u8 0), (.int .u8 0), (.int .u8 0), (.int .u8 0), (.int .u8 0), (.int .u8 0), (.int .u8 0), (.int .u8 0), (.int .u8 0), (.int .u8 0), (.int .u8 0), (.int .u8 0), (.int .u8 0), (.int .u8 0), (.int .u8 0), (.int .u8 0), (.int .u8 0), (.int .u8 0), (.int .u8 0), (.int .u8 0), (.int .u8 0), (.int .u8 0), (.string (⟨#[]⟩ : ByteArray)), (.string (⟨#[]⟩ : ByteArray))])) fun b9 =>
    C.st 66 (Addr.mk b9 0 none) (.agg r21.1) <|
    cond (r21.2 != 0) (
      C.call n_impl_toldCode [(.int .i64 r21.2)] [(.int .i64)] fun r28 =>
      C.ret (.tuple #[(.slice s3.a s3.n s3.c), (.int .i64 r28)])
    ) (
      C.ld .agg 66 (Addr.mk b9 0 none) fun v30 =>
      C.sem (Instr.buildSlice ty_sl_impl_MapNode 1 #[(0, (.agg v30))]) .slice fun y31 =>
      C.sem (Builtin.append_ #[ty_sl_impl_MapNode, ty_sl_impl_MapNode] ty_sl_impl_MapNode #[(.slice s3.a s3.n s3.c), (.slice y31.a y31.n y31.c)]) .slice fun y32 =>
      C.ld .str 1 (((Addr.mk b9 0 none).add 64).add 0) fun v35 =>
      C.pur (eqB .eql ty_string (.tmp 35) (.tmp 36) (.string v35) (.string x2)) .bool fun y37 =>
      cond y37 (
        C.ret (.tuple #[(.slice y32.a y32.n y32.c), (.int .i64 0)])
      ) (
        C.ld .agg 66 (Addr.mk b9 0 none) fun v38 =>
        C.call n_impl_MapNode_next [(.agg v38), (.string x2)] [.agg] fun r40 =>
        C.st 32 (Addr.mk b4 0 none) (.agg r40) <|
        ct3 [(.slice y32.a y32.n y32.c)]
      )
    )
  ) (
    C.ret (.tuple #[(.slice s3.a s3.n s3.c), (.int .i64 0)])
  )
theorem ptr_impl_mapper_descend_eq (C : Comb) (x0 : Addr) (x1 : Array Value) (x2 : ByteArray) : fT C Tryz.prog { loop := [(2, [(8, .slice)])], join := [], anyOrder := [], pure := [] } n_ptr_impl_mapper_descend [(.pointer (some x0)), (.agg x1), (.string x2)] = ptr_impl_mapper_descend C x0 x1 x2 := by kernel_rfl
theorem ptr_impl_mapper_descend_calls {R : Value → World → Prop} {w : World} (x0 : Addr) (x1 : Array Value) (x2 : ByteArray) (h : (ptr_impl_mapper_descend (real Tryz.prog R) x0 x1 x2 : World → Prop) w) :
    Calls Tryz.prog n_ptr_impl_mapper_descend [(.pointer (some x0)), (.agg x1), (.string x2)].toArray w fun e w' => ∃ v, e = .returned v ∧ R v w' := fT_sound mixed { loop := [(2, [(8, .slice)])], join := [], anyOrder := [], pure := [] } (by rw [ptr_impl_mapper_descend_eq]; exact h)

/-- spec.l08Node (147) -/
def spec_l08Node (C : Comb) (x0 : Addr) (x1 : Array Value) : C.St :=
  C.new ty_impl_Key (.agg x1) fun b3 =>
  C.new ty_impl_MapNode (.agg (#[(.int .u8 0), (.int .u8 0), (.int .u8 0), (.int .u8 0), (.int .u8 0), (.int .u8 0), (.int .u8 0), (.int .u8 0), (.int .u8 0), (.int .u8 0), (.int .u8 0), (.int .u8 0), (.int .u8 0), (.int .u8 0), (.int .u8 0), (.int .u8 0), (.int .u8 0), (.int .u8 0), (.int .u8 0), (.int .u8 0), (.int .u8 0), (.int .u8 0), (.int .u8 0), (.int .u8 0), (.int .u8 0), (.int .u8 0), (.int .u8 0), (.int .u8 0), (.int .u8 0), (.int .u8 0), (.int .u8 0), (.int .u8 0), (.int .u8 0), (.int .u8 0), (.int .u8 0), (.int .u8 0), (.int .u8 0), (.int .u8 0), (.int .u8 0), (.int .u8 0), (.int .u8 0), (.int .u8 0), (.int .u8 0), (.int .u8 0), (.int .u8 0), (.int .u8 0), (.int .u8 0), (.int .u8 0), (.int .u8 0), (.int .u8 0), (.int .u8 0), (.int .u8 0), (.int .u8 0), (.int .u8 0), (.int .u8 0), (.int .u8 0), (.int .u8 0), (.int .u8 0), (.int .u8 0), (.int .u8 0), (.int .u8 0), (.int .u8 0), (.int .u8 0), (.int .u8 0), (.string (⟨#[]⟩ : ByteArray)), (.string (⟨#[]⟩ : ByteArray))])) fun b4 =>
  C.ld .agg 32 (Addr.mk b3 0 none) fun v10 =>
  C.call n_ptr_spec_l05Store_find [(.pointer (some x0)), (.agg v10)] [(.int .i64)] fun r11 =>
  cond (decide (r11 < 0)) (
    C.pur (Instr.build ty_impl_MapNode #[]) .agg fun y14 =>
    C.st 66 (Addr.mk b4 0 none) (.agg y14) <|
    C.ld .agg 66 (Addr.mk b4 0 none) fun z6 =>
    C.ret (.tuple #[(.agg z6), (.int .i64 4)])
  ) (
    C.ld .slice 1 (x0.add 0) fun v19 =>
    C.ix v19.a v19.n 2 r11 fun p21 =>
    C.ld .slice 1 (p21.add 1) fun v23 =>
    C.call n_spec_l04Read [(.slice v23.a v23.n v23.c)] [.agg, .bool] fun r24 =>
    C.new ty_impl_MapNode (.agg (#[(.int .u8 0), (.int .u8 0), (.int .u8 0), (.int .u8 0), (.int .u8 0), (.int .u8 0), (.int .u8 0), (.int .u8 0), (.int .u8 0), (.int .u8 0), (.int .u8 0), (.int .u8 0), (.int .u8 0), (.int .u8 0), (.int .u8 0), (.int .u8 0), (.int .u8 0), (.int .u8 0), (.int .u8 0), (.int .u8 0), (.int .u8 0), (.int .u8 0), (.int .u8 0), (.int .u8 0), (.int .u8 0), (.int .u8 0), (.int .u8 0), (.int .u8 0), (.int .u8 0), (.int .u8 0), (.int .u8 0), (.int .u8 0), (.int .u8 0), (.int .u8 0), (.int .u8 0), (.int .u8 0), (.int .u8 0), (.int .u8 0), (.int .u8 0), (.int .u8 0), (.int .u8 0), (.int .u8 0), (.int .u8 0), (.int .u8 0), (.int .u8 0), (.int .u8 0), (.int .u8 0), (.int .u8 0), (.int .u8 0), (.int .u8 0), (.int .u8 0), (.int .u8 0), (.int .u8 0), (.int .u8 0), (.int .u8 0), (.int .u8 0), (.int .u8 0), (.int .u8 0), (.int .u8 0), (.int .u8 0), (.int .u8 0), (.int .u8 0), (.int .u8 0), (.int .u8 0), (.string (⟨#[]⟩ : ByteArray)), (.string (⟨#[]⟩ : ByteArray))])) fun b7 =>
    C.st 66 (Addr.mk b7 0 none) (.agg r24.1) <|
    cond (!r24.2) (
      C.pur (Instr.build ty_impl_MapNode #[]) .agg fun y40 =>
      C.st 66 (Addr.mk b4 0 none) (.agg y40) <|
      C.ld .agg 66 (Addr.mk b4 0 none) fun z13 =>
      C.ret (.tuple #[(.agg z13), (.int .i64 8)])
    ) (
      C.ld .slice 1 (x0.add 0) fun v33 =>
      C.ix v33.a v33.n 2 r11 fun p35 =>
      C.ld (.int .u8) 1 (p35.add 0) fun v37 =>
      cond (v37 != 5) (
        C.pur (Instr.build ty_impl_MapNode #[]) .agg fun y40 =>
        C.st 66 (Addr.mk b4 0 none) (.agg y40) <|
        C.ld .agg 66 (Addr.mk b4 0 none) fun z18 =>
        C.ret (.tuple #[(.agg z18), (.int .i64 8)])
      ) (
        C.ld .agg 66 (Addr.mk b7 0 none) fun v41 =>
        C.st 66 (Addr.mk b4 0 none) (.agg v41) <|
        C.ld .agg 66 (Addr.mk b4 0 none) fun z20 =>
        C.ret (.tuple #[(.agg z20), (.int .i64 0)])
      )
    )
  )
theorem spec_l08Node_eq (C : Comb) (x0 : Addr) (x1 : Array Value) : fT C Tryz.prog { loop := [], join := [], anyOrder := [], pure := [] } n_spec_l08Node [(.pointer (some x0)), (.agg x1)] = spec_l08Node C x0 x1 := by kernel_rfl
theorem spec_l08Node_calls {R : Value → World → Prop} {w : World} (x0 : Addr) (x1 : Array Value) (h : (spec_l08Node (real Tryz.prog R) x0 x1 : World → Prop) w) :
    Calls Tryz.prog n_spec_l08Node [(.pointer (some x0)), (.agg x1)].toArray w fun e w' => ∃ v, e = .returned v ∧ R v w' := fT_sound mixed { loop := [], join := [], anyOrder := [], pure := [] } (by rw [spec_l08Node_eq]; exact h)

/-- (*impl.mapper).node (148) -/
def ptr_impl_mapper_node (C : Comb) (x0 : Addr) (x1 : Array Value) (x2 : Option Addr) (x3 : Option Addr) : C.St :=
  C.new ty_impl_Key (.agg x1) fun b5 =>
  C.new ty_impl_MapNode (.agg (#[(.int .u8 0), (.int .u8 0), (.int .u8 0), (.int .u8 0), (.int .u8 0), (.int .u8 0), (.int .u8 0), (.int .u8 0), (.int .u8 0), (.int .u8 0), (.int .u8 0), (.int .u8 0), (.int .u8 0), (.int .u8 0), (.int .u8 0), (.int .u8 0), (.int .u8 0), (.int .u8 0), (.int .u8 0), (.int .u8 0), (.int .u8 0), (.int .u8 0), (.int .u8 0), (.int .u8 0), (.int .u8 0), (.int .u8 0), (.int .u8 0), (.int .u8 0), (.int .u8 0), (.int .u8 0), (.int .u8 0), (.int .u8 0), (.int .u8 0), (.int .u8 0), (.int .u8 0), (.int .u8 0), (.int .u8 0), (.int .u8 0), (.int .u8 0), (.int .u8 0), (.int .u8 0), (.int .u8 0), (.int .u8 0), (.int .u8 0), (.int .u8 0), (.int .u8 0), (.int .u8 0), (.int .u8 0), (.int .u8 0), (.int .u8 0), (.int .u8 0), (.int .u8 0), (.int .u8 0), (.int .u8 0), (.int .u8 0), (.int .u8 0), (.int .u8 0), (.int .u8 0), (.int .u8 0), (.int .u8 0), (.int .u8 0), (.int .u8 0), (.int .u8 0), (.int .u8 0), (.string (⟨#[]⟩ : ByteArray)), (.string (⟨#[]⟩ : ByteArray))])) fun b8 =>
  C.join (TL [.ptr, .bool]) (embL [.ptr, .bool]) (fun s9 => C.any fun _ =>
      cond (!s9.2) (
        C.ld .agg 32 (Addr.mk b5 0 none) fun v28 =>
        C.st 32 (x0.add 35) (.agg v28) <|
        C.pur (Instr.build ty_impl_MapNode #[]) .agg fun y31 =>
        C.st 66 (Addr.mk b8 0 none) (.agg y31) <|
        C.ld .agg 66 (Addr.mk b8 0 none) fun z12 =>
        C.ret (.tuple #[(.agg z12), (.int .i64 6)])
      ) (
        C.ld .slice 1 (s9.1.add 1) fun v34 =>
        C.call n_impl_ReadMapNode [(.slice v34.a v34.n v34.c)] [.agg, (.int .i64)] fun r35 =>
        C.new ty_impl_MapNode (.agg (#[(.int .u8 0), (.int .u8 0), (.int .u8 0), (.int .u8 0), (.int .u8 0), (.int .u8 0), (.int .u8 0), (.int .u8 0), (.int .u8 0), (.int .u8 0), (.int .u8 0), (.int .u8 0), (.int .u8 0), (.int .u8 0), (.int .u8 0), (.int .u8 0), (.int .u8 0), (.int .u8 0), (.int .u8 0), (.int .u8 0), (.int .u8 0), (.int .u8 0), (.int .u8 0), (.int .u8 0), (.int .u8 0), (.int .u8 0), (.int .u8 0), (.int .u8 0), (.int .u8 0), (.int .u8 0), (.int .u8 0), (.int .u8 0), (.int .u8 0), (.int .u8 0), (.int .u8 0), (.int .u8 0), (.int .u8 0), (.int .u8 0), (.int .u8 0), (.int .u8 0), (.int .u8 0), (.int .u8 0), (.int .u8 0), (.int .u8 0), (.int .u8 0), (.int .u8 0), (.int .u8 0), (.int .u8 0), (.int .u8 0), (.int .u8 0), (.int .u8 0), (.int .u8 0), (.int .u8 0), (.int .u8 0), (.int .u8 0), (.int .u8 0), (.int .u8 0), (.int .u8 0), (.int .u8 0), (.int .u8 0), (.int .u8 0), (.int .u8 0), (.int .u8 0), (.int .u8 0), (.string (⟨#[]⟩ : ByteArray)), (.string (⟨#[]⟩ : ByteArray))])) fun b12 =>
        C.st 66 (Addr.mk b12 0 none) (.agg r35.1) <|
        C.ld (.int .i64) 1 (x0.add 33) fun v41 =>
        C.st 1 (x0.add 33) (.int .i64 (IntKind.wrap .i64 (v41 + 1))) <|
        C.ld .str 1 (((Addr.mk b12 0 none).add 64).add 0) fun v47 =>
        C.join (TL [.bool]) (embL [.bool]) (fun s31 => C.any fun _ =>
            C.ld (.int .u8) 1 (s9.1.add 0) fun v76 =>
            cond (v76 != 5) (
              C.pur (Instr.build ty_impl_MapNode #[]) .agg fun y92 =>
              C.st 66 (Addr.mk b8 0 none) (.agg y92) <|
              C.ld .agg 66 (Addr.mk b8 0 none) fun z34 =>
              C.ret (.tuple #[(.agg z34), (.int .i64 8)])
            ) (
              cond (r35.2 != 0) (
                C.pur (Instr.build ty_impl_MapNode #[]) .agg fun y92 =>
                C.st 66 (Addr.mk b8 0 none) (.agg y92) <|
                C.ld .agg 66 (Addr.mk b8 0 none) fun z36 =>
                C.ret (.tuple #[(.agg z36), (.int .i64 8)])
              ) (
                C.ld (.int .i64) 1 (x0.add 33) fun v86 =>
                cond (decide (v86 > 64)) (
                  C.pur (Instr.build ty_impl_MapNode #[]) .agg fun y92 =>
                  C.st 66 (Addr.mk b8 0 none) (.agg y92) <|
                  C.ld .agg 66 (Addr.mk b8 0 none) fun z39 =>
                  C.ret (.tuple #[(.agg z39), (.int .i64 8)])
                ) (
                  cond s31 (
                    C.pur (Instr.build ty_impl_MapNode #[]) .agg fun y92 =>
                    C.st 66 (Addr.mk b8 0 none) (.agg y92) <|
                    C.ld .agg 66 (Addr.mk b8 0 none) fun z41 =>
                    C.ret (.tuple #[(.agg z41), (.int .i64 8)])
                  ) (
                    C.ld .agg 66 (Addr.mk b12 0 none) fun v93 =>
                    C.st 66 (Addr.mk b8 0 none) (.agg v93) <|
                    C.ld .agg 66 (Addr.mk b8 0 none) fun z43 =>
                    C.ret (.tuple #[(.agg z43), (.int .i64 0)])
                  )
                )
              )
            )
          ) fun jt =>
        C.ld .bool 1 (x0.add 34) fun v51 =>
        cond (!v51) (
          C.pur (eqB .neq ty_ptr_string (.tmp 54) (.const (.pointer none)) (.pointer x2) (.pointer none)) .bool fun y55 =>
          cond y55 (
            dpT C x2 fun a20 =>
            C.ld .str 1 a20 fun v60 =>
            C.pur (eqB .leq ty_string (.tmp 57) (.tmp 60) (.string v47) (.string v60)) .bool fun y61 =>
            cond y61 (
              jt [(.bool true)]
            ) (
              C.pur (eqB .neq ty_ptr_string (.tmp 64) (.const (.pointer none)) (.pointer x3) (.pointer none)) .bool fun y65 =>
              cond y65 (
                dpT C x3 fun a24 =>
                C.ld .str 1 a24 fun v70 =>
                C.pur (eqB .geq ty_string (.tmp 67) (.tmp 70) (.string v47) (.string v70)) .bool fun y71 =>
                jt [(.bool y71)]
              ) (
                jt [(.bool false)]
              )
            )
          ) (
            C.pur (eqB .neq ty_ptr_string (.tmp 64) (.const (.pointer none)) (.pointer x3) (.pointer none)) .bool fun y65 =>
            cond y65 (
              dpT C x3 fun a28 =>
              C.ld .str 1 a28 fun v70 =>
              C.pur (eqB .geq ty_string (.tmp 67) (.tmp 70) (.string v47) (.string v70)) .bool fun y71 =>
              jt [(.bool y71)]
            ) (
              jt [(.bool false)]
            )
          )
        ) (
          jt [(.bool false)]
        )
      )
    ) fun jt =>
  C.draw <|
  C.ld .ptr 1 (x0.add 0) fun v20 =>
  C.ld .agg 32 (Addr.mk b5 0 none) fun v21 =>
  C.all [
    (C.call n_ptr_impl_shop_get [(.pointer (some v20)), (.agg v21)] [.agg, .bool] fun r22 =>
     C.new ty_impl_Blob (.agg (#[(.int .u8 0), (.slice none 0 0)])) fun b10 =>
     C.st 2 (Addr.mk b10 0 none) (.agg r22.1) <|
     jt [(.pointer (some (Addr.mk b10 0 none))), (.bool r22.2)]),
    (C.new ty_impl_Blob (.agg (#[(.int .u8 0), (.slice none 0 0)])) fun b10 =>
     C.chk [⟨4, 32, (Addr.mk b5 0 none), .agg, v21⟩, ⟨3, 1, (x0.add 0), .ptr, v20⟩] <|
     C.call n_ptr_impl_shop_get [(.pointer (some v20)), (.agg v21)] [.agg, .bool] fun r22 =>
     C.st 2 (Addr.mk b10 0 none) (.agg r22.1) <|
     jt [(.pointer (some (Addr.mk b10 0 none))), (.bool r22.2)])]
theorem ptr_impl_mapper_node_eq (C : Comb) (x0 : Addr) (x1 : Array Value) (x2 : Option Addr) (x3 : Option Addr) : fT C Tryz.prog { loop := [], join := [(4, [(10, .ptr), (11, .bool)]), (25, [(15, .bool)])], anyOrder := [1], pure := [] } n_ptr_impl_mapper_node [(.pointer (some x0)), (.agg x1), (.pointer x2), (.pointer x3)] = ptr_impl_mapper_node C x0 x1 x2 x3 := by kernel_rfl
theorem ptr_impl_mapper_node_calls {R : Value → World → Prop} {w : World} (x0 : Addr) (x1 : Array Value) (x2 : Option Addr) (x3 : Option Addr) (h : (ptr_impl_mapper_node (real Tryz.prog R) x0 x1 x2 x3 : World → Prop) w) :
    Calls Tryz.prog n_ptr_impl_mapper_node [(.pointer (some x0)), (.agg x1), (.pointer x2), (.pointer x3)].toArray w fun e w' => ∃ v, e = .returned v ∧ R v w' := fT_sound mixed { loop := [], join := [(4, [(10, .ptr), (11, .bool)]), (25, [(15, .bool)])], anyOrder := [1], pure := [] } (by rw [ptr_impl_mapper_node_eq]; exact h)

/-- spec.l01Hash (149) -/
def spec_l01Hash (C : Comb) (x0 : Int) (x1 : Sl) : C.St :=
  C.new ty_impl_Key (.agg (Array.replicate 32 (.int .u8 0))) fun b4 =>
  C.call n_spec_l01Start [(.int .u8 x0)] [.agg] fun r6 =>
  C.call n_spec_l01End [(.agg r6), (.slice x1.a x1.n x1.c), (.int .i64 (x1.n : Int))] [.agg] fun r10 =>
  C.st 32 (Addr.mk b4 0 none) (.agg r10) <|
  C.ld .agg 32 (Addr.mk b4 0 none) fun z4 =>
  C.ret (.agg z4)
theorem spec_l01Hash_eq (C : Comb) (x0 : Int) (x1 : Sl) : fT C Tryz.prog { loop := [], join := [], anyOrder := [], pure := [] } n_spec_l01Hash [(.int .u8 x0), (.slice x1.a x1.n x1.c)] = spec_l01Hash C x0 x1 := by kernel_rfl
theorem spec_l01Hash_calls {R : Value → World → Prop} {w : World} (x0 : Int) (x1 : Sl) (h : (spec_l01Hash (real Tryz.prog R) x0 x1 : World → Prop) w) :
    Calls Tryz.prog n_spec_l01Hash [(.int .u8 x0), (.slice x1.a x1.n x1.c)].toArray w fun e w' => ∃ v, e = .returned v ∧ R v w' := fT_sound mixed { loop := [], join := [], anyOrder := [], pure := [] } (by rw [spec_l01Hash_eq]; exact h)

/-- math/bits.Len64 (150) -/
def math_bits_Len64 (C : Comb) (x0 : Int) : C.St :=
  C.join (TL [(.int .u64), (.int .i64)]) (embL [(.int .u64), (.int .i64)]) (fun s1 => C.any fun _ =>
      C.join (TL [(.int .u64), (.int .i64)]) (embL [(.int .u64), (.int .i64)]) (fun s2 => C.any fun _ =>
          C.join (TL [(.int .u64), (.int .i64)]) (embL [(.int .u64), (.int .i64)]) (fun s3 => C.any fun _ =>
              C.ixS (⟨#[0, 1, 2, 2, 3, 3, 3, 3, 4, 4, 4, 4, 4, 4, 4, 4, 5, 5, 5, 5, 5, 5, 5, 5, 5, 5, 5, 5, 5, 5, 5, 5, 6, 6, 6, 6, 6, 6, 6, 6, 6, 6, 6, 6, 6, 6, 6, 6, 6, 6, 6, 6, 6, 6, 6, 6, 6, 6, 6, 6, 6, 6, 6, 6, 7, 7, 7, 7, 7, 7, 7, 7, 7, 7, 7, 7, 7, 7, 7, 7, 7, 7, 7, 7, 7, 7, 7, 7, 7, 7, 7, 7, 7, 7, 7, 7, 7, 7, 7, 7, 7, 7, 7, 7, 7, 7, 7, 7, 7, 7, 7, 7, 7, 7, 7, 7, 7, 7, 7, 7, 7, 7, 7, 7, 7, 7, 7, 7, 8, 8, 8, 8, 8, 8, 8, 8, 8, 8, 8, 8, 8, 8, 8, 8, 8, 8, 8, 8, 8, 8, 8, 8, 8, 8, 8, 8, 8, 8, 8, 8, 8, 8, 8, 8, 8, 8, 8, 8, 8, 8, 8, 8, 8, 8, 8, 8, 8, 8, 8, 8, 8, 8, 8, 8, 8, 8, 8, 8, 8, 8, 8, 8, 8, 8, 8, 8, 8, 8, 8, 8, 8, 8, 8, 8, 8, 8, 8, 8, 8, 8, 8, 8, 8, 8, 8, 8, 8, 8, 8, 8, 8, 8, 8, 8, 8, 8, 8, 8, 8, 8, 8, 8, 8, 8, 8, 8, 8, 8, 8, 8, 8, 8, 8, 8, 8, 8, 8, 8, 8, 8, 8, 8, 8, 8, 8, 8]⟩ : ByteArray) (IntKind.wrap .u8 (s3.1)) fun y22 =>
              C.ret (.int .i64 (IntKind.wrap .i64 (s3.2 + (IntKind.wrap .i64 (y22)))))
            ) fun jt =>
          cond (decide (s2.1 ≥ 256)) (
            jt [(.int .u64 (Int.fdiv s2.1 (2 ^ 8))), (.int .i64 (IntKind.wrap .i64 (s2.2 + 8)))]
          ) (
            jt [(.int .u64 s2.1), (.int .i64 s2.2)]
          )
        ) fun jt =>
      cond (decide (s1.1 ≥ 65536)) (
        jt [(.int .u64 (Int.fdiv s1.1 (2 ^ 16))), (.int .i64 (IntKind.wrap .i64 (s1.2 + 16)))]
      ) (
        jt [(.int .u64 s1.1), (.int .i64 s1.2)]
      )
    ) fun jt =>
  cond (decide (x0 ≥ 4294967296)) (
    jt [(.int .u64 (Int.fdiv x0 (2 ^ 32))), (.int .i64 32)]
  ) (
    jt [(.int .u64 x0), (.int .i64 0)]
  )
theorem math_bits_Len64_eq (C : Comb) (x0 : Int) : fT C Tryz.prog { loop := [], join := [(12, [(0, (.int .u64)), (2, (.int .i64))]), (24, [(0, (.int .u64)), (2, (.int .i64))]), (42, [(0, (.int .u64)), (2, (.int .i64))])], anyOrder := [], pure := [] } n_math_bits_Len64 [(.int .u64 x0)] = math_bits_Len64 C x0 := by kernel_rfl
theorem math_bits_Len64_calls {R : Value → World → Prop} {w : World} (x0 : Int) (h : (math_bits_Len64 (real Tryz.prog R) x0 : World → Prop) w) :
    Calls Tryz.prog n_math_bits_Len64 [(.int .u64 x0)].toArray w fun e w' => ∃ v, e = .returned v ∧ R v w' := fT_sound mixed { loop := [], join := [(12, [(0, (.int .u64)), (2, (.int .i64))]), (24, [(0, (.int .u64)), (2, (.int .i64))]), (42, [(0, (.int .u64)), (2, (.int .i64))])], anyOrder := [], pure := [] } (by rw [math_bits_Len64_eq]; exact h)

/-- (*impl.shop).get (151) -/
def ptr_impl_shop_get (C : Comb) (x0 : Addr) (x1 : Array Value) : C.St :=
  C.new ty_impl_Key (.agg x1) fun b3 =>
  C.new ty_impl_Blob (.agg (#[(.int .u8 0), (.slice none 0 0)])) fun b4 =>
  C.ld .agg 32 (Addr.mk b3 0 none) fun v10 =>
  C.call n_ptr_impl_shop_find [(.pointer (some x0)), (.agg v10)] [(.int .i64), .bool] fun r11 =>
  cond (!r11.2) (
    C.pur (Instr.build ty_impl_Blob #[]) .agg fun y16 =>
    C.st 2 (Addr.mk b4 0 none) (.agg y16) <|
    C.ld .agg 2 (Addr.mk b4 0 none) fun z6 =>
    C.ret (.tuple #[(.agg z6), (.bool false)])
  ) (
    C.ld .slice 1 (x0.add 1) fun v20 =>
    C.ix v20.a v20.n 2 r11.1 fun p22 =>
    C.ld .agg 2 p22 fun v23 =>
    C.st 2 (Addr.mk b4 0 none) (.agg v23) <|
    C.ld .agg 2 (Addr.mk b4 0 none) fun z10 =>
    C.ret (.tuple #[(.agg z10), (.bool true)])
  )
theorem ptr_impl_shop_get_eq (C : Comb) (x0 : Addr) (x1 : Array Value) : fT C Tryz.prog { loop := [], join := [], anyOrder := [], pure := [] } n_ptr_impl_shop_get [(.pointer (some x0)), (.agg x1)] = ptr_impl_shop_get C x0 x1 := by kernel_rfl
theorem ptr_impl_shop_get_calls {R : Value → World → Prop} {w : World} (x0 : Addr) (x1 : Array Value) (h : (ptr_impl_shop_get (real Tryz.prog R) x0 x1 : World → Prop) w) :
    Calls Tryz.prog n_ptr_impl_shop_get [(.pointer (some x0)), (.agg x1)].toArray w fun e w' => ∃ v, e = .returned v ∧ R v w' := fT_sound mixed { loop := [], join := [], anyOrder := [], pure := [] } (by rw [ptr_impl_shop_get_eq]; exact h)

/-- slices.ContainsFunc[[]impl.Blob,impl.Blob] (152) -/
def slices_ContainsFunc_sl_impl_Blob_impl_Blob (C : Comb) (x0 : Sl) (x1 : Value) : C.St :=
  C.call n_slices_IndexFunc_sl_impl_Blob_impl_Blob [(.slice x0.a x0.n x0.c), x1] [(.int .i64)] fun r7 =>
  C.ret (.bool (decide (r7 ≥ 0)))
theorem slices_ContainsFunc_sl_impl_Blob_impl_Blob_eq (C : Comb) (x0 : Sl) (x1 : Value) : fT C Tryz.prog { loop := [], join := [], anyOrder := [], pure := [] } n_slices_ContainsFunc_sl_impl_Blob_impl_Blob [(.slice x0.a x0.n x0.c), x1] = slices_ContainsFunc_sl_impl_Blob_impl_Blob C x0 x1 := by kernel_rfl
theorem slices_ContainsFunc_sl_impl_Blob_impl_Blob_calls {R : Value → World → Prop} {w : World} (x0 : Sl) (x1 : Value) (h : (slices_ContainsFunc_sl_impl_Blob_impl_Blob (real Tryz.prog R) x0 x1 : World → Prop) w) :
    Calls Tryz.prog n_slices_ContainsFunc_sl_impl_Blob_impl_Blob [(.slice x0.a x0.n x0.c), x1].toArray w fun e w' => ∃ v, e = .returned v ∧ R v w' := fT_sound mixed { loop := [], join := [], anyOrder := [], pure := [] } (by rw [slices_ContainsFunc_sl_impl_Blob_impl_Blob_eq]; exact h)

/-- impl.ValidStore$1 (153) -/
def impl_ValidStore_1 (C : Comb) (x0 : Array Value) : C.St :=
  C.new ty_impl_Blob (.agg x0) fun b1 =>
  C.ld .agg 2 (Addr.mk b1 0 none) fun v3 =>
  C.call n_impl_ValidBlob [(.agg v3)] [.bool] fun r4 =>
  C.ret (.bool (!r4))
theorem impl_ValidStore_1_eq (C : Comb) (x0 : Array Value) : fT C Tryz.prog { loop := [], join := [], anyOrder := [], pure := [] } n_impl_ValidStore_1 [(.agg x0)] = impl_ValidStore_1 C x0 := by kernel_rfl
theorem impl_ValidStore_1_calls {R : Value → World → Prop} {w : World} (x0 : Array Value) (h : (impl_ValidStore_1 (real Tryz.prog R) x0 : World → Prop) w) :
    Calls Tryz.prog n_impl_ValidStore_1 [(.agg x0)].toArray w fun e w' => ∃ v, e = .returned v ∧ R v w' := fT_sound mixed { loop := [], join := [], anyOrder := [], pure := [] } (by rw [impl_ValidStore_1_eq]; exact h)

/-- impl.ValidBlob (154) -/
def impl_ValidBlob (C : Comb) (x0 : Array Value) : C.St :=
  C.new ty_impl_Blob (.agg x0) fun b1 =>
  C.ld .slice 1 ((Addr.mk b1 0 none).add 1) fun v4 =>
  C.ret (.bool (decide ((v4.n : Int) ≤ 1024)))
theorem impl_ValidBlob_eq (C : Comb) (x0 : Array Value) : fT C Tryz.prog { loop := [], join := [], anyOrder := [], pure := [] } n_impl_ValidBlob [(.agg x0)] = impl_ValidBlob C x0 := by kernel_rfl
theorem impl_ValidBlob_calls {R : Value → World → Prop} {w : World} (x0 : Array Value) (h : (impl_ValidBlob (real Tryz.prog R) x0 : World → Prop) w) :
    Calls Tryz.prog n_impl_ValidBlob [(.agg x0)].toArray w fun e w' => ∃ v, e = .returned v ∧ R v w' := fT_sound mixed { loop := [], join := [], anyOrder := [], pure := [] } (by rw [impl_ValidBlob_eq]; exact h)

/-- impl.sorted (155) -/
def impl_sorted (C : Comb) (x0 : Sl) : C.St :=
  C.call n_slices_Clone_sl_impl_Key_impl_Key [(.slice x0.a x0.n x0.c)] [.slice] fun r5 =>
  C.call n_slices_SortFunc_sl_impl_Key_impl_Key [(.slice r5.a r5.n r5.c), (.func (.func n_impl_compareKeys) #[] #[])] [] fun r7 =>
  C.call n_slices_Compact_sl_impl_Key_impl_Key [(.slice r5.a r5.n r5.c)] [.slice] fun r9 =>
  C.ret (.slice r9.a r9.n r9.c)
theorem impl_sorted_eq (C : Comb) (x0 : Sl) : fT C Tryz.prog { loop := [], join := [], anyOrder := [], pure := [] } n_impl_sorted [(.slice x0.a x0.n x0.c)] = impl_sorted C x0 := by kernel_rfl
theorem impl_sorted_calls {R : Value → World → Prop} {w : World} (x0 : Sl) (h : (impl_sorted (real Tryz.prog R) x0 : World → Prop) w) :
    Calls Tryz.prog n_impl_sorted [(.slice x0.a x0.n x0.c)].toArray w fun e w' => ∃ v, e = .returned v ∧ R v w' := fT_sound mixed { loop := [], join := [], anyOrder := [], pure := [] } (by rw [impl_sorted_eq]; exact h)

/-- slices.IsSortedFunc[[]impl.Key,impl.Key] (156) -/
def slices_IsSortedFunc_sl_impl_Key_impl_Key (C : Comb) (x0 : Sl) (x1 : Value) : C.St :=
  C.loop (TL [(.int .i64)]) (embL [(.int .i64)]) [(.int .i64 (IntKind.wrap .i64 ((x0.n : Int) - 1)))] fun s1 ct1 => C.any fun _ =>
  cond (decide (s1 > 0)) (
    C.draw <|
    C.ix x0.a x0.n 32 s1 fun p16 =>
    C.ld .agg 32 p16 fun v17 =>
    C.ix x0.a x0.n 32 (IntKind.wrap .i64 (s1 - 1)) fun p21 =>
    C.ld .agg 32 p21 fun v22 =>
    C.callV x1 [(.agg v17), (.agg v22)] [(.int .i64)] fun r23 =>
    cond (decide (r23 < 0)) (
      C.ret (.bool false)
    ) (
      ct1 [(.int .i64 (IntKind.wrap .i64 (s1 - 1)))]
    )
  ) (
    C.ret (.bool true)
  )
theorem slices_IsSortedFunc_sl_impl_Key_impl_Key_eq (C : Comb) (x0 : Sl) (x1 : Value) : fT C Tryz.prog { loop := [(2, [(5, (.int .i64))])], join := [], anyOrder := [4], pure := [] } n_slices_IsSortedFunc_sl_impl_Key_impl_Key [(.slice x0.a x0.n x0.c), x1] = slices_IsSortedFunc_sl_impl_Key_impl_Key C x0 x1 := by kernel_rfl
theorem slices_IsSortedFunc_sl_impl_Key_impl_Key_calls {R : Value → World → Prop} {w : World} (x0 : Sl) (x1 : Value) (h : (slices_IsSortedFunc_sl_impl_Key_impl_Key (real Tryz.prog R) x0 x1 : World → Prop) w) :
    Calls Tryz.prog n_slices_IsSortedFunc_sl_impl_Key_impl_Key [(.slice x0.a x0.n x0.c), x1].toArray w fun e w' => ∃ v, e = .returned v ∧ R v w' := fT_sound mixed { loop := [(2, [(5, (.int .i64))])], join := [], anyOrder := [4], pure := [] } (by rw [slices_IsSortedFunc_sl_impl_Key_impl_Key_eq]; exact h)

/-- impl.compareKeys (157) -/
def impl_compareKeys (C : Comb) (x0 : Array Value) (x1 : Array Value) : C.St :=
  C.new ty_impl_Key (.agg x0) fun b2 =>
  C.new ty_impl_Key (.agg x1) fun b3 =>
  C.draw <|
  C.sl (some (Addr.mk b2 0 none)) 32 32 1 none none none fun y5 =>
  C.sl (some (Addr.mk b3 0 none)) 32 32 1 none none none fun y6 =>
  C.callQ n_slices_Compare_sl_byte_byte [(.slice y5.a y5.n y5.c), (.slice y6.a y6.n y6.c)] [(.int .i64)] fun r7 =>
  C.ret (.int .i64 r7)
theorem impl_compareKeys_eq (C : Comb) (x0 : Array Value) (x1 : Array Value) : fT C Tryz.prog { loop := [], join := [], anyOrder := [], pure := [] } n_impl_compareKeys [(.agg x0), (.agg x1)] = impl_compareKeys C x0 x1 := by kernel_rfl
theorem impl_compareKeys_calls {R : Value → World → Prop} {w : World} (x0 : Array Value) (x1 : Array Value) (h : (impl_compareKeys (real Tryz.prog R) x0 x1 : World → Prop) w) :
    Calls Tryz.prog n_impl_compareKeys [(.agg x0), (.agg x1)].toArray w fun e w' => ∃ v, e = .returned v ∧ R v w' := fT_sound mixed { loop := [], join := [], anyOrder := [], pure := [] } (by rw [impl_compareKeys_eq]; exact h)

/-- spec.l01Bytes (158) -/
def spec_l01Bytes (C : Comb) (x0 : Sl) (x1 : Sl) : C.St :=
  cond ((x0.n : Int) != (x1.n : Int)) (
    C.ret (.bool false)
  ) (
    C.loop (TL [(.int .i64)]) (embL [(.int .i64)]) [(.int .i64 0)] fun s1 ct1 => C.any fun _ =>
    cond (decide (s1 < (x0.n : Int))) (
      C.draw <|
      C.ix x0.a x0.n 1 s1 fun p19 =>
      C.ld (.int .u8) 1 p19 fun v20 =>
      C.ix x1.a x1.n 1 s1 fun p23 =>
      C.ld (.int .u8) 1 p23 fun v24 =>
      cond (v20 != v24) (
        C.ret (.bool false)
      ) (
        ct1 [(.int .i64 (IntKind.wrap .i64 (s1 + 1)))]
      )
    ) (
      C.ret (.bool true)
    )
  )
theorem spec_l01Bytes_eq (C : Comb) (x0 : Sl) (x1 : Sl) : fT C Tryz.prog { loop := [(4, [(5, (.int .i64))])], join := [], anyOrder := [], pure := [] } n_spec_l01Bytes [(.slice x0.a x0.n x0.c), (.slice x1.a x1.n x1.c)] = spec_l01Bytes C x0 x1 := by kernel_rfl
theorem spec_l01Bytes_calls {R : Value → World → Prop} {w : World} (x0 : Sl) (x1 : Sl) (h : (spec_l01Bytes (real Tryz.prog R) x0 x1 : World → Prop) w) :
    Calls Tryz.prog n_spec_l01Bytes [(.slice x0.a x0.n x0.c), (.slice x1.a x1.n x1.c)].toArray w fun e w' => ∃ v, e = .returned v ∧ R v w' := fT_sound mixed { loop := [(4, [(5, (.int .i64))])], join := [], anyOrder := [], pure := [] } (by rw [spec_l01Bytes_eq]; exact h)

/-- spec.l05Copy (159) -/
def spec_l05Copy (C : Comb) (x0 : Array Value) : C.St :=
  C.new ty_impl_Blob (.agg x0) fun b1 =>
  C.new ty_impl_Blob (.agg (#[(.int .u8 0), (.slice none 0 0)])) fun b2 =>
  C.draw <|
  C.ld (.int .u8) 1 ((Addr.mk b1 0 none).add 0) fun v4 =>
  C.ld .slice 1 ((Addr.mk b1 0 none).add 1) fun v7 =>
  C.sem (Instr.buildSlice ty_sl_uint8 0 #[]) .slice fun y5 =>
  C.chk [⟨4, 1, ((Addr.mk b1 0 none).add 1), .slice, v7⟩, ⟨1, 1, ((Addr.mk b1 0 none).add 0), (.int .u8), v4⟩] <|
  C.sem (Builtin.append_ #[ty_sl_uint8, ty_sl_uint8] ty_sl_uint8 #[(.slice y5.a y5.n y5.c), (.slice v7.a v7.n v7.c)]) .slice fun y8 =>
  C.chk [⟨1, 1, ((Addr.mk b1 0 none).add 0), (.int .u8), v4⟩] <|
  C.pur (Instr.build ty_impl_Blob #[(0, (.int .u8 v4)), (1, (.slice y8.a y8.n y8.c))]) .agg fun y9 =>
  C.st 2 (Addr.mk b2 0 none) (.agg y9) <|
  C.ld .agg 2 (Addr.mk b2 0 none) fun z8 =>
  C.ret (.agg z8)
theorem spec_l05Copy_eq (C : Comb) (x0 : Array Value) : fT C Tryz.prog { loop := [], join := [], anyOrder := [1], pure := [] } n_spec_l05Copy [(.agg x0)] = spec_l05Copy C x0 := by kernel_rfl
theorem spec_l05Copy_calls {R : Value → World → Prop} {w : World} (x0 : Array Value) (h : (spec_l05Copy (real Tryz.prog R) x0 : World → Prop) w) :
    Calls Tryz.prog n_spec_l05Copy [(.agg x0)].toArray w fun e w' => ∃ v, e = .returned v ∧ R v w' := fT_sound mixed { loop := [], join := [], anyOrder := [1], pure := [] } (by rw [spec_l05Copy_eq]; exact h)

/-- impl.blocks (160) -/
def impl_blocks (C : Comb) (x0 : Sl) : C.St :=
  C.sem (Instr.buildSlice ty_sl_arr32_uint8 0 #[]) .slice fun y5 =>
  C.loop (TL [.slice, .slice]) (embL [.slice, .slice]) [(.slice x0.a x0.n x0.c), (.slice y5.a y5.n y5.c)] fun s2 ct2 => C.any fun _ =>
  cond (decide ((s2.1.n : Int) ≥ 32)) (
    C.pur (Instr.arrayAt ty_arr32_uint8 (.slice s2.1.a s2.1.n s2.1.c)) .ptr fun y11 =>
    C.ld .agg 32 y11 fun v12 =>
    C.sem (Instr.buildSlice ty_sl_arr32_uint8 1 #[(0, (.agg v12))]) .slice fun y13 =>
    C.sem (Builtin.append_ #[ty_sl_arr32_uint8, ty_sl_arr32_uint8] ty_sl_arr32_uint8 #[(.slice s2.2.a s2.2.n s2.2.c), (.slice y13.a y13.n y13.c)]) .slice fun y14 =>
    C.sl s2.1.a s2.1.n s2.1.c 1 (some 32) none none fun y16 =>
    ct2 [(.slice y16.a y16.n y16.c), (.slice y14.a y14.n y14.c)]
  ) (
    C.ret (.tuple #[(.slice s2.2.a s2.2.n s2.2.c), (.slice s2.1.a s2.1.n s2.1.c)])
  )
theorem impl_blocks_eq (C : Comb) (x0 : Sl) : fT C Tryz.prog { loop := [(2, [(0, .slice), (4, .slice)])], join := [], anyOrder := [], pure := [] } n_impl_blocks [(.slice x0.a x0.n x0.c)] = impl_blocks C x0 := by kernel_rfl
theorem impl_blocks_calls {R : Value → World → Prop} {w : World} (x0 : Sl) (h : (impl_blocks (real Tryz.prog R) x0 : World → Prop) w) :
    Calls Tryz.prog n_impl_blocks [(.slice x0.a x0.n x0.c)].toArray w fun e w' => ∃ v, e = .returned v ∧ R v w' := fT_sound mixed { loop := [(2, [(0, .slice), (4, .slice)])], join := [], anyOrder := [], pure := [] } (by rw [impl_blocks_eq]; exact h)

/-- impl.padding (161) -/
def impl_padding (C : Comb) (x0 : Int) : C.St :=
  C.sem (Instr.buildSlice ty_sl_uint8 1 #[(0, (.int .u8 128))]) .slice fun y4 =>
  C.loop (TL [.slice]) (embL [.slice]) [(.slice y4.a y4.n y4.c)] fun s2 ct2 => C.any fun _ =>
  C.call n_impl_size_byte [(.slice s2.a s2.n s2.c)] [(.int .i64)] fun r7 =>
  cond ((Int.tmod (IntKind.wrap .i64 (x0 + r7)) 32) != 24) (
    C.sem (Instr.buildSlice ty_sl_uint8 1 #[(0, (.int .u8 0))]) .slice fun y12 =>
    C.sem (Builtin.append_ #[ty_sl_uint8, ty_sl_uint8] ty_sl_uint8 #[(.slice s2.a s2.n s2.c), (.slice y12.a y12.n y12.c)]) .slice fun y13 =>
    ct2 [(.slice y13.a y13.n y13.c)]
  ) (
    C.call n_impl_appendLittle [(.slice s2.a s2.n s2.c), (.int .u64 (IntKind.wrap .u64 (x0))), (.int .i64 8)] [.slice] fun r17 =>
    C.ret (.slice r17.a r17.n r17.c)
  )
theorem impl_padding_eq (C : Comb) (x0 : Int) : fT C Tryz.prog { loop := [(2, [(3, .slice)])], join := [], anyOrder := [], pure := [] } n_impl_padding [(.int .i64 x0)] = impl_padding C x0 := by kernel_rfl
theorem impl_padding_calls {R : Value → World → Prop} {w : World} (x0 : Int) (h : (impl_padding (real Tryz.prog R) x0 : World → Prop) w) :
    Calls Tryz.prog n_impl_padding [(.int .i64 x0)].toArray w fun e w' => ∃ v, e = .returned v ∧ R v w' := fT_sound mixed { loop := [(2, [(3, .slice)])], join := [], anyOrder := [], pure := [] } (by rw [impl_padding_eq]; exact h)

/-- impl.size[byte] (162) -/
def impl_size_byte (C : Comb) (x0 : Sl) : C.St :=
  C.ret (.int .i64 (x0.n : Int))
theorem impl_size_byte_eq (C : Comb) (x0 : Sl) : fT C Tryz.prog { loop := [], join := [], anyOrder := [], pure := [] } n_impl_size_byte [(.slice x0.a x0.n x0.c)] = impl_size_byte C x0 := by kernel_rfl
theorem impl_size_byte_calls {R : Value → World → Prop} {w : World} (x0 : Sl) (h : (impl_size_byte (real Tryz.prog R) x0 : World → Prop) w) :
    Calls Tryz.prog n_impl_size_byte [(.slice x0.a x0.n x0.c)].toArray w fun e w' => ∃ v, e = .returned v ∧ R v w' := fT_sound mixed { loop := [], join := [], anyOrder := [], pure := [] } (by rw [impl_size_byte_eq]; exact h)

/-- impl.keyOf (163) -/
def impl_keyOf (C : Comb) (x0 : Array Value) : C.St :=
  C.new ty_arr8_uint32 (.agg x0) fun b1 =>
  C.new ty_impl_Key (.agg (Array.replicate 32 (.int .u8 0))) fun b2 =>
  C.new ty_impl_Key (.agg (Array.replicate 32 (.int .u8 0))) fun b3 =>
  C.st 32 (Addr.mk b3 0 none) (.agg (Array.replicate 32 (.int .u8 0))) <|
  C.ld .agg 8 (Addr.mk b1 0 none) fun v7 =>
  C.loop (TL [(.int .i64)]) (embL [(.int .i64)]) [(.int .i64 0)] fun s5 ct5 => C.any fun _ =>
  cond (decide (s5 < 8)) (
    C.ixV (.int .u32) v7 8 1 s5 fun y11 =>
    C.draw <|
    C.sl (some (Addr.mk b3 0 none)) 32 32 1 (some (IntKind.wrap .i64 (4 * s5))) none none fun y14 =>
    C.call n_impl_appendLittle [(.slice none 0 0), (.int .u64 (IntKind.wrap .u64 (y11))), (.int .i64 4)] [.slice] fun r17 =>
    C.sem (Builtin.copy_ #[ty_sl_uint8, ty_sl_uint8] ty_int #[(.slice y14.a y14.n y14.c), (.slice r17.a r17.n r17.c)]) (.int .i64) fun y18 =>
    ct5 [(.int .i64 (IntKind.wrap .i64 (s5 + 1)))]
  ) (
    C.ld .agg 32 (Addr.mk b3 0 none) fun v20 =>
    C.st 32 (Addr.mk b2 0 none) (.agg v20) <|
    C.ld .agg 32 (Addr.mk b2 0 none) fun z11 =>
    C.ret (.agg z11)
  )
theorem impl_keyOf_eq (C : Comb) (x0 : Array Value) : fT C Tryz.prog { loop := [(3, [(8, (.int .i64))])], join := [], anyOrder := [5], pure := [] } n_impl_keyOf [(.agg x0)] = impl_keyOf C x0 := by kernel_rfl
theorem impl_keyOf_calls {R : Value → World → Prop} {w : World} (x0 : Array Value) (h : (impl_keyOf (real Tryz.prog R) x0 : World → Prop) w) :
    Calls Tryz.prog n_impl_keyOf [(.agg x0)].toArray w fun e w' => ∃ v, e = .returned v ∧ R v w' := fT_sound mixed { loop := [(3, [(8, (.int .i64))])], join := [], anyOrder := [5], pure := [] } (by rw [impl_keyOf_eq]; exact h)

/-- impl.mixed (164) -/
def impl_mixed (C : Comb) (x0 : Array Value) (x1 : Sl) : C.St :=
  C.new ty_arr8_uint32 (.agg x0) fun b2 =>
  C.new ty_arr8_uint32 (.agg (Array.replicate 8 (.int .u32 0))) fun b4 =>
  C.loop (TL [(.int .i64)]) (embL [(.int .i64)]) [(.int .i64 0)] fun s3 ct3 => C.any fun _ =>
  cond (decide (s3 < (x1.n : Int))) (
    C.ix x1.a x1.n 32 s3 fun p11 =>
    C.ld .agg 32 p11 fun v12 =>
    C.new ty_arr32_uint8 (.agg (Array.replicate 32 (.int .u8 0))) fun b6 =>
    C.st 32 (Addr.mk b6 0 none) (.agg v12) <|
    C.ld .agg 8 (Addr.mk b2 0 none) fun v13 =>
    C.ld .agg 32 (Addr.mk b6 0 none) fun v14 =>
    C.call n_impl_MixBlock [(.agg v13), (.agg v14)] [.agg] fun r15 =>
    C.st 8 (Addr.mk b2 0 none) (.agg r15) <|
    ct3 [(.int .i64 (IntKind.wrap .i64 (s3 + 1)))]
  ) (
    C.ld .agg 8 (Addr.mk b2 0 none) fun v17 =>
    C.st 8 (Addr.mk b4 0 none) (.agg v17) <|
    C.ld .agg 8 (Addr.mk b4 0 none) fun z11 =>
    C.ret (.agg z11)
  )
theorem impl_mixed_eq (C : Comb) (x0 : Array Value) (x1 : Sl) : fT C Tryz.prog { loop := [(2, [(9, (.int .i64))])], join := [], anyOrder := [], pure := [] } n_impl_mixed [(.agg x0), (.slice x1.a x1.n x1.c)] = impl_mixed C x0 x1 := by kernel_rfl
theorem impl_mixed_calls {R : Value → World → Prop} {w : World} (x0 : Array Value) (x1 : Sl) (h : (impl_mixed (real Tryz.prog R) x0 x1 : World → Prop) w) :
    Calls Tryz.prog n_impl_mixed [(.agg x0), (.slice x1.a x1.n x1.c)].toArray w fun e w' => ∃ v, e = .returned v ∧ R v w' := fT_sound mixed { loop := [(2, [(9, (.int .i64))])], join := [], anyOrder := [], pure := [] } (by rw [impl_mixed_eq]; exact h)

/-- impl.StartState (165) -/
def impl_StartState (C : Comb) (x0 : Int) : C.St :=
  C.new ty_arr8_uint32 (.agg (Array.replicate 8 (.int .u32 0))) fun b2 =>
  C.new ty_arr8_uint32 (.agg (Array.replicate 8 (.int .u32 0))) fun b3 =>
  C.st 8 (Addr.mk b3 0 none) (.agg (Array.replicate 8 (.int .u32 0))) <|
  C.loop (TL [(.int .i64)]) (embL [(.int .i64)]) [(.int .i64 0)] fun s3 ct3 => C.any fun _ =>
  cond (decide (s3 < 8)) (
    C.ix (some (Addr.mk b3 0 none)) 8 1 s3 fun p17 =>
    C.st 1 p17 (.int .u32 (IntKind.wrap .u32 ((IntKind.wrap .u32 (16777619 * (IntKind.wrap .u32 ((IntKind.wrap .i64 (s3 + 1)))))) + (IntKind.wrap .u32 (x0))))) <|
    ct3 [(.int .i64 (IntKind.wrap .i64 (s3 + 1)))]
  ) (
    C.ld .agg 8 (Addr.mk b3 0 none) fun v19 =>
    C.st 8 (Addr.mk b2 0 none) (.agg v19) <|
    C.ld .agg 8 (Addr.mk b2 0 none) fun z6 =>
    C.ret (.agg z6)
  )
theorem impl_StartState_eq (C : Comb) (x0 : Int) : fT C Tryz.prog { loop := [(3, [(6, (.int .i64))])], join := [], anyOrder := [], pure := [] } n_impl_StartState [(.int .u8 x0)] = impl_StartState C x0 := by kernel_rfl
theorem impl_StartState_calls {R : Value → World → Prop} {w : World} (x0 : Int) (h : (impl_StartState (real Tryz.prog R) x0 : World → Prop) w) :
    Calls Tryz.prog n_impl_StartState [(.int .u8 x0)].toArray w fun e w' => ∃ v, e = .returned v ∧ R v w' := fT_sound mixed { loop := [(3, [(6, (.int .i64))])], join := [], anyOrder := [], pure := [] } (by rw [impl_StartState_eq]; exact h)

/-- slices.Grow[[]byte,byte] (166) -/
def slices_Grow_sl_byte_byte (C : Comb) (x0 : Sl) (x1 : Int) : C.St :=
  C.join (TL []) (embL []) (fun s2 => C.any fun _ =>
      cond (decide ((IntKind.wrap .i64 (x1 - (IntKind.wrap .i64 ((x0.c : Int) - (x0.n : Int))))) > 0)) (
        C.sl x0.a x0.n x0.c 1 none (some (x0.c : Int)) none fun y20 =>
        C.sem (Builtin.append_ #[ty_sl_uint8, ty_int] ty_sl_uint8 #[(.slice y20.a y20.n y20.c), (.int .i64 (IntKind.wrap .i64 (x1 - (IntKind.wrap .i64 ((x0.c : Int) - (x0.n : Int))))))]) .slice fun y22 =>
        C.sl y22.a y22.n y22.c 1 none (some (x0.n : Int)) none fun y25 =>
        C.ret (.slice y25.a y25.n y25.c)
      ) (
        C.ret (.slice x0.a x0.n x0.c)
      )
    ) fun jt =>
  cond (decide (x1 < 0)) (
    C.pur (Instr.makeInterface ty_string (.string (⟨#[99, 97, 110, 110, 111, 116, 32, 98, 101, 32, 110, 101, 103, 97, 116, 105, 118, 101]⟩ : ByteArray))) .val fun y7 =>
    C.fail
  ) (
    jt []
  )
theorem slices_Grow_sl_byte_byte_eq (C : Comb) (x0 : Sl) (x1 : Int) : fT C Tryz.prog { loop := [], join := [(18, [])], anyOrder := [], pure := [] } n_slices_Grow_sl_byte_byte [(.slice x0.a x0.n x0.c), (.int .i64 x1)] = slices_Grow_sl_byte_byte C x0 x1 := by kernel_rfl
theorem slices_Grow_sl_byte_byte_calls {R : Value → World → Prop} {w : World} (x0 : Sl) (x1 : Int) (h : (slices_Grow_sl_byte_byte (real Tryz.prog R) x0 x1 : World → Prop) w) :
    Calls Tryz.prog n_slices_Grow_sl_byte_byte [(.slice x0.a x0.n x0.c), (.int .i64 x1)].toArray w fun e w' => ∃ v, e = .returned v ∧ R v w' := fT_sound mixed { loop := [], join := [(18, [])], anyOrder := [], pure := [] } (by rw [slices_Grow_sl_byte_byte_eq]; exact h)

/-- (*impl.shop).find (167) -/
def ptr_impl_shop_find (C : Comb) (x0 : Addr) (x1 : Array Value) : C.St :=
  C.new ty_impl_Key (.agg x1) fun b3 =>
  C.draw <|
  C.ld .slice 1 (x0.add 0) fun v9 =>
  C.ld .agg 32 (Addr.mk b3 0 none) fun v10 =>
  C.call n_slices_BinarySearchFunc_sl_impl_Key_impl_Key_impl_Key [(.slice v9.a v9.n v9.c), (.agg v10), (.func (.func n_impl_compareKeys) #[] #[])] [(.int .i64), .bool] fun r11 =>
  C.ret (.tuple #[(.int .i64 r11.1), (.bool r11.2)])
theorem ptr_impl_shop_find_eq (C : Comb) (x0 : Addr) (x1 : Array Value) : fT C Tryz.prog { loop := [], join := [], anyOrder := [1], pure := [] } n_ptr_impl_shop_find [(.pointer (some x0)), (.agg x1)] = ptr_impl_shop_find C x0 x1 := by kernel_rfl
theorem ptr_impl_shop_find_calls {R : Value → World → Prop} {w : World} (x0 : Addr) (x1 : Array Value) (h : (ptr_impl_shop_find (real Tryz.prog R) x0 x1 : World → Prop) w) :
    Calls Tryz.prog n_ptr_impl_shop_find [(.pointer (some x0)), (.agg x1)].toArray w fun e w' => ∃ v, e = .returned v ∧ R v w' := fT_sound mixed { loop := [], join := [], anyOrder := [1], pure := [] } (by rw [ptr_impl_shop_find_eq]; exact h)

/-- impl.SameBlob (168) -/
def impl_SameBlob (C : Comb) (x0 : Array Value) (x1 : Array Value) : C.St :=
  C.new ty_impl_Blob (.agg x0) fun b2 =>
  C.new ty_impl_Blob (.agg x1) fun b3 =>
  C.ld (.int .u8) 1 ((Addr.mk b2 0 none).add 0) fun v6 =>
  C.ld (.int .u8) 1 ((Addr.mk b3 0 none).add 0) fun v8 =>
  cond (v6 == v8) (
    C.ld .slice 1 ((Addr.mk b2 0 none).add 1) fun v12 =>
    C.ld .slice 1 ((Addr.mk b3 0 none).add 1) fun v14 =>
    C.call n_bytes_Equal [(.slice v12.a v12.n v12.c), (.slice v14.a v14.n v14.c)] [.bool] fun r15 =>
    C.ret (.bool r15)
  ) (
    C.ret (.bool false)
  )
theorem impl_SameBlob_eq (C : Comb) (x0 : Array Value) (x1 : Array Value) : fT C Tryz.prog { loop := [], join := [], anyOrder := [], pure := [] } n_impl_SameBlob [(.agg x0), (.agg x1)] = impl_SameBlob C x0 x1 := by kernel_rfl
theorem impl_SameBlob_calls {R : Value → World → Prop} {w : World} (x0 : Array Value) (x1 : Array Value) (h : (impl_SameBlob (real Tryz.prog R) x0 x1 : World → Prop) w) :
    Calls Tryz.prog n_impl_SameBlob [(.agg x0), (.agg x1)].toArray w fun e w' => ∃ v, e = .returned v ∧ R v w' := fT_sound mixed { loop := [], join := [], anyOrder := [], pure := [] } (by rw [impl_SameBlob_eq]; exact h)

/-- slices.Insert[[]impl.Key,impl.Key] (169) -/
def slices_Insert_sl_impl_Key_impl_Key (C : Comb) (x0 : Sl) (x1 : Int) (x2 : Sl) : C.St :=
  C.sl x0.a x0.n x0.c 32 (some x1) none none fun y12 =>
  cond ((x2.n : Int) == 0) (
    C.ret (.slice x0.a x0.n x0.c)
  ) (
    cond (x1 == (x0.n : Int)) (
      C.sem (Builtin.append_ #[ty_sl_impl_Key, ty_sl_impl_Key] ty_sl_impl_Key #[(.slice x0.a x0.n x0.c), (.slice x2.a x2.n x2.c)]) .slice fun y25 =>
      C.ret (.slice y25.a y25.n y25.c)
    ) (
      cond (decide ((IntKind.wrap .i64 ((x0.n : Int) + (x2.n : Int))) > (x0.c : Int))) (
        C.sl x0.a x0.n x0.c 32 none (some x1) none fun y34 =>
        C.sem (Builtin.append_ #[ty_sl_impl_Key, ty_int] ty_sl_impl_Key #[(.slice y34.a y34.n y34.c), (.int .i64 (IntKind.wrap .i64 ((IntKind.wrap .i64 ((x0.n : Int) + (x2.n : Int))) - x1)))]) .slice fun y40 =>
        C.sl y40.a y40.n y40.c 32 (some x1) none none fun y43 =>
        C.sem (Builtin.copy_ #[ty_sl_impl_Key, ty_sl_impl_Key] ty_int #[(.slice y43.a y43.n y43.c), (.slice x2.a x2.n x2.c)]) (.int .i64) fun y45 =>
        C.draw <|
        C.sl y40.a y40.n y40.c 32 (some (IntKind.wrap .i64 (x1 + (x2.n : Int)))) none none fun y50 =>
        C.sl x0.a x0.n x0.c 32 (some x1) none none fun y53 =>
        C.sem (Builtin.copy_ #[ty_sl_impl_Key, ty_sl_impl_Key] ty_int #[(.slice y50.a y50.n y50.c), (.slice y53.a y53.n y53.c)]) (.int .i64) fun y54 =>
        C.ret (.slice y40.a y40.n y40.c)
      ) (
        C.sl x0.a x0.n x0.c 32 none (some (IntKind.wrap .i64 ((x0.n : Int) + (x2.n : Int)))) none fun y60 =>
        C.sl y60.a y60.n y60.c 32 (some (IntKind.wrap .i64 (x1 + (x2.n : Int)))) none none fun y66 =>
        C.ext n_slices_overlaps_impl_Key [(.slice x2.a x2.n x2.c), (.slice y66.a y66.n y66.c)] [.bool] fun r67 =>
        cond (!r67) (
          C.join (TL []) (embL []) (fun s16 => C.any fun _ =>
              C.sl y60.a y60.n y60.c 32 (some x1) none none fun y80 =>
              C.sem (Builtin.copy_ #[ty_sl_impl_Key, ty_sl_impl_Key] ty_int #[(.slice y80.a y80.n y80.c), (.slice x2.a x2.n x2.c)]) (.int .i64) fun y82 =>
              C.ret (.slice y60.a y60.n y60.c)
            ) fun jt =>
          C.draw <|
          C.sl y60.a y60.n y60.c 32 (some (IntKind.wrap .i64 (x1 + (x2.n : Int)))) none none fun y73 =>
          C.sl y60.a y60.n y60.c 32 (some x1) none none fun y76 =>
          C.sem (Builtin.copy_ #[ty_sl_impl_Key, ty_sl_impl_Key] ty_int #[(.slice y73.a y73.n y73.c), (.slice y76.a y76.n y76.c)]) (.int .i64) fun y77 =>
          jt []
        ) (
          C.sl y60.a y60.n y60.c 32 (some (x0.n : Int)) none none fun y86 =>
          C.sem (Builtin.copy_ #[ty_sl_impl_Key, ty_sl_impl_Key] ty_int #[(.slice y86.a y86.n y86.c), (.slice x2.a x2.n x2.c)]) (.int .i64) fun y88 =>
          C.sl y60.a y60.n y60.c 32 (some x1) none none fun y91 =>
          C.call n_slices_rotateRight_impl_Key [(.slice y91.a y91.n y91.c), (.int .i64 (x2.n : Int))] [] fun r93 =>
          C.ret (.slice y60.a y60.n y60.c)
        )
      )
    )
  )
theorem slices_Insert_sl_impl_Key_impl_Key_eq (C : Comb) (x0 : Sl) (x1 : Int) (x2 : Sl) : fT C Tryz.prog { loop := [], join := [(46, [])], anyOrder := [11, 15], pure := [] } n_slices_Insert_sl_impl_Key_impl_Key [(.slice x0.a x0.n x0.c), (.int .i64 x1), (.slice x2.a x2.n x2.c)] = slices_Insert_sl_impl_Key_impl_Key C x0 x1 x2 := by kernel_rfl
theorem slices_Insert_sl_impl_Key_impl_Key_calls {R : Value → World → Prop} {w : World} (x0 : Sl) (x1 : Int) (x2 : Sl) (h : (slices_Insert_sl_impl_Key_impl_Key (real Tryz.prog R) x0 x1 x2 : World → Prop) w) :
    Calls Tryz.prog n_slices_Insert_sl_impl_Key_impl_Key [(.slice x0.a x0.n x0.c), (.int .i64 x1), (.slice x2.a x2.n x2.c)].toArray w fun e w' => ∃ v, e = .returned v ∧ R v w' := fT_sound mixed { loop := [], join := [(46, [])], anyOrder := [11, 15], pure := [] } (by rw [slices_Insert_sl_impl_Key_impl_Key_eq]; exact h)

/-- slices.Insert[[]impl.Blob,impl.Blob] (170) -/
def slices_Insert_sl_impl_Blob_impl_Blob (C : Comb) (x0 : Sl) (x1 : Int) (x2 : Sl) : C.St :=
  C.sl x0.a x0.n x0.c 2 (some x1) none none fun y12 =>
  cond ((x2.n : Int) == 0) (
    C.ret (.slice x0.a x0.n x0.c)
  ) (
    cond (x1 == (x0.n : Int)) (
      C.sem (Builtin.append_ #[ty_sl_impl_Blob, ty_sl_impl_Blob] ty_sl_impl_Blob #[(.slice x0.a x0.n x0.c), (.slice x2.a x2.n x2.c)]) .slice fun y25 =>
      C.ret (.slice y25.a y25.n y25.c)
    ) (
      cond (decide ((IntKind.wrap .i64 ((x0.n : Int) + (x2.n : Int))) > (x0.c : Int))) (
        C.sl x0.a x0.n x0.c 2 none (some x1) none fun y34 =>
        C.sem (Builtin.append_ #[ty_sl_impl_Blob, ty_int] ty_sl_impl_Blob #[(.slice y34.a y34.n y34.c), (.int .i64 (IntKind.wrap .i64 ((IntKind.wrap .i64 ((x0.n : Int) + (x2.n : Int))) - x1)))]) .slice fun y40 =>
        C.sl y40.a y40.n y40.c 2 (some x1) none none fun y43 =>
        C.sem (Builtin.copy_ #[ty_sl_impl_Blob, ty_sl_impl_Blob] ty_int #[(.slice y43.a y43.n y43.c), (.slice x2.a x2.n x2.c)]) (.int .i64) fun y45 =>
        C.draw <|
        C.sl y40.a y40.n y40.c 2 (some (IntKind.wrap .i64 (x1 + (x2.n : Int)))) none none fun y50 =>
        C.sl x0.a x0.n x0.c 2 (some x1) none none fun y53 =>
        C.sem (Builtin.copy_ #[ty_sl_impl_Blob, ty_sl_impl_Blob] ty_int #[(.slice y50.a y50.n y50.c), (.slice y53.a y53.n y53.c)]) (.int .i64) fun y54 =>
        C.ret (.slice y40.a y40.n y40.c)
      ) (
        C.sl x0.a x0.n x0.c 2 none (some (IntKind.wrap .i64 ((x0.n : Int) + (x2.n : Int)))) none fun y60 =>
        C.sl y60.a y60.n y60.c 2 (some (IntKind.wrap .i64 (x1 + (x2.n : Int)))) none none fun y66 =>
        C.ext n_slices_overlaps_impl_Blob [(.slice x2.a x2.n x2.c), (.slice y66.a y66.n y66.c)] [.bool] fun r67 =>
        cond (!r67) (
          C.join (TL []) (embL []) (fun s16 => C.any fun _ =>
              C.sl y60.a y60.n y60.c 2 (some x1) none none fun y80 =>
              C.sem (Builtin.copy_ #[ty_sl_impl_Blob, ty_sl_impl_Blob] ty_int #[(.slice y80.a y80.n y80.c), (.slice x2.a x2.n x2.c)]) (.int .i64) fun y82 =>
              C.ret (.slice y60.a y60.n y60.c)
            ) fun jt =>
          C.draw <|
          C.sl y60.a y60.n y60.c 2 (some (IntKind.wrap .i64 (x1 + (x2.n : Int)))) none none fun y73 =>
          C.sl y60.a y60.n y60.c 2 (some x1) none none fun y76 =>
          C.sem (Builtin.copy_ #[ty_sl_impl_Blob, ty_sl_impl_Blob] ty_int #[(.slice y73.a y73.n y73.c), (.slice y76.a y76.n y76.c)]) (.int .i64) fun y77 =>
          jt []
        ) (
          C.sl y60.a y60.n y60.c 2 (some (x0.n : Int)) none none fun y86 =>
          C.sem (Builtin.copy_ #[ty_sl_impl_Blob, ty_sl_impl_Blob] ty_int #[(.slice y86.a y86.n y86.c), (.slice x2.a x2.n x2.c)]) (.int .i64) fun y88 =>
          C.sl y60.a y60.n y60.c 2 (some x1) none none fun y91 =>
          C.call n_slices_rotateRight_impl_Blob [(.slice y91.a y91.n y91.c), (.int .i64 (x2.n : Int))] [] fun r93 =>
          C.ret (.slice y60.a y60.n y60.c)
        )
      )
    )
  )
theorem slices_Insert_sl_impl_Blob_impl_Blob_eq (C : Comb) (x0 : Sl) (x1 : Int) (x2 : Sl) : fT C Tryz.prog { loop := [], join := [(46, [])], anyOrder := [11, 15], pure := [] } n_slices_Insert_sl_impl_Blob_impl_Blob [(.slice x0.a x0.n x0.c), (.int .i64 x1), (.slice x2.a x2.n x2.c)] = slices_Insert_sl_impl_Blob_impl_Blob C x0 x1 x2 := by kernel_rfl
theorem slices_Insert_sl_impl_Blob_impl_Blob_calls {R : Value → World → Prop} {w : World} (x0 : Sl) (x1 : Int) (x2 : Sl) (h : (slices_Insert_sl_impl_Blob_impl_Blob (real Tryz.prog R) x0 x1 x2 : World → Prop) w) :
    Calls Tryz.prog n_slices_Insert_sl_impl_Blob_impl_Blob [(.slice x0.a x0.n x0.c), (.int .i64 x1), (.slice x2.a x2.n x2.c)].toArray w fun e w' => ∃ v, e = .returned v ∧ R v w' := fT_sound mixed { loop := [], join := [(46, [])], anyOrder := [11, 15], pure := [] } (by rw [slices_Insert_sl_impl_Blob_impl_Blob_eq]; exact h)

/-- (impl.Blob).copied (171) -/
def impl_Blob_copied (C : Comb) (x0 : Array Value) : C.St :=
  C.new ty_impl_Blob (.agg x0) fun b1 =>
  C.new ty_impl_Blob (.agg (#[(.int .u8 0), (.slice none 0 0)])) fun b2 =>
  C.draw <|
  C.ld (.int .u8) 1 ((Addr.mk b1 0 none).add 0) fun v4 =>
  C.ld .slice 1 ((Addr.mk b1 0 none).add 1) fun v6 =>
  C.call n_slices_Clone_sl_byte_byte [(.slice v6.a v6.n v6.c)] [.slice] fun r7 =>
  C.chk [⟨1, 1, ((Addr.mk b1 0 none).add 0), (.int .u8), v4⟩] <|
  C.pur (Instr.build ty_impl_Blob #[(0, (.int .u8 v4)), (1, (.slice r7.a r7.n r7.c))]) .agg fun y8 =>
  C.st 2 (Addr.mk b2 0 none) (.agg y8) <|
  C.ld .agg 2 (Addr.mk b2 0 none) fun z7 =>
  C.ret (.agg z7)
theorem impl_Blob_copied_eq (C : Comb) (x0 : Array Value) : fT C Tryz.prog { loop := [], join := [], anyOrder := [1], pure := [] } n_impl_Blob_copied [(.agg x0)] = impl_Blob_copied C x0 := by kernel_rfl
theorem impl_Blob_copied_calls {R : Value → World → Prop} {w : World} (x0 : Array Value) (h : (impl_Blob_copied (real Tryz.prog R) x0 : World → Prop) w) :
    Calls Tryz.prog n_impl_Blob_copied [(.agg x0)].toArray w fun e w' => ∃ v, e = .returned v ∧ R v w' := fT_sound mixed { loop := [], join := [], anyOrder := [1], pure := [] } (by rw [impl_Blob_copied_eq]; exact h)

/-- impl.PairKey (172) -/
def impl_PairKey (C : Comb) (x0 : Int) (x1 : Array Value) (x2 : Array Value) : C.St :=
  C.new ty_impl_Key (.agg x1) fun b4 =>
  C.new ty_impl_Key (.agg x2) fun b5 =>
  C.new ty_impl_Key (.agg (Array.replicate 32 (.int .u8 0))) fun b6 =>
  C.draw <|
  C.sl (some (Addr.mk b4 0 none)) 32 32 1 none none none fun y8 =>
  C.sl (some (Addr.mk b5 0 none)) 32 32 1 none none none fun y9 =>
  C.sem (Instr.buildSlice ty_sl_sl_uint8 2 #[(0, (.slice y8.a y8.n y8.c)), (1, (.slice y9.a y9.n y9.c))]) .slice fun y10 =>
  C.call n_slices_Concat_sl_byte_byte [(.slice y10.a y10.n y10.c)] [.slice] fun r11 =>
  C.call n_impl_hash [(.int .u8 x0), (.slice r11.a r11.n r11.c)] [.agg] fun r12 =>
  C.st 32 (Addr.mk b6 0 none) (.agg r12) <|
  C.ld .agg 32 (Addr.mk b6 0 none) fun z9 =>
  C.ret (.agg z9)
theorem impl_PairKey_eq (C : Comb) (x0 : Int) (x1 : Array Value) (x2 : Array Value) : fT C Tryz.prog { loop := [], join := [], anyOrder := [1], pure := [] } n_impl_PairKey [(.int .u8 x0), (.agg x1), (.agg x2)] = impl_PairKey C x0 x1 x2 := by kernel_rfl
theorem impl_PairKey_calls {R : Value → World → Prop} {w : World} (x0 : Int) (x1 : Array Value) (x2 : Array Value) (h : (impl_PairKey (real Tryz.prog R) x0 x1 x2 : World → Prop) w) :
    Calls Tryz.prog n_impl_PairKey [(.int .u8 x0), (.agg x1), (.agg x2)].toArray w fun e w' => ∃ v, e = .returned v ∧ R v w' := fT_sound mixed { loop := [], join := [], anyOrder := [1], pure := [] } (by rw [impl_PairKey_eq]; exact h)

/-- spec.l04Priority (173) -/
def spec_l04Priority (C : Comb) (x0 : ByteArray) : C.St :=
  C.new ty_impl_Key (.agg (Array.replicate 32 (.int .u8 0))) fun b2 =>
  C.sem (convert ty_string ty_sl_uint8 (.string x0)) .slice fun y4 =>
  C.call n_spec_l01Hash [(.int .u8 4), (.slice y4.a y4.n y4.c)] [.agg] fun r5 =>
  C.st 32 (Addr.mk b2 0 none) (.agg r5) <|
  C.ld .agg 32 (Addr.mk b2 0 none) fun z4 =>
  C.ret (.agg z4)
theorem spec_l04Priority_eq (C : Comb) (x0 : ByteArray) : fT C Tryz.prog { loop := [], join := [], anyOrder := [], pure := [] } n_spec_l04Priority [(.string x0)] = spec_l04Priority C x0 := by kernel_rfl
theorem spec_l04Priority_calls {R : Value → World → Prop} {w : World} (x0 : ByteArray) (h : (spec_l04Priority (real Tryz.prog R) x0 : World → Prop) w) :
    Calls Tryz.prog n_spec_l04Priority [(.string x0)].toArray w fun e w' => ∃ v, e = .returned v ∧ R v w' := fT_sound mixed { loop := [], join := [], anyOrder := [], pure := [] } (by rw [spec_l04Priority_eq]; exact h)

/-- spec.l04Read (174) -/
def spec_l04Read (C : Comb) (x0 : Sl) : C.St :=
  C.new ty_impl_MapNode (.agg (#[(.int .u8 0), (.int .u8 0), (.int .u8 0), (.int .u8 0), (.int .u8 0), (.int .u8 0), (.int .u8 0), (.int .u8 0), (.int .u8 0), (.int .u8 0), (.int .u8 0), (.int .u8 0), (.int .u8 0), (.int .u8 0), (.int .u8 0), (.int .u8 0), (.int .u8 0), (.int .u8 0), (.int .u8 0), (.int .u8 0), (.int .u8 0), (.int .u8 0), (.int .u8 0), (.int .u8 0), (.int .u8 0), (.int .u8 0), (.int .u8 0), (.int .u8 0), (.int .u8 0), (.int .u8 0), (.int .u8 0), (.int .u8 0), (.int .u8 0), (.int .u8 0), (.int .u8 0), (.int .u8 0), (.int .u8 0), (.int .u8 0), (.int .u8 0), (.int .u8 0), (.int .u8 0), (.int .u8 0), (.int .u8 0), (.int .u8 0), (.int .u8 0), (.int .u8 0), (.int .u8 0), (.int .u8 0), (.int .u8 0), (.int .u8 0), (.int .u8 0), (.int .u8 0), (.int .u8 0), (.int .u8 0), (.int .u8 0), (.int .u8 0), (.int .u8 0), (.int .u8 0), (.int .u8 0), (.int .u8 0), (.int .u8 0), (.int .u8 0), (.int .u8 0), (.int .u8 0), (.string (⟨#[]⟩ : ByteArray)), (.string (⟨#[]⟩ : ByteArray))])) fun b2 =>
  C.pur (Instr.build ty_impl_MapNode #[]) .agg fun y7 =>
  C.new ty_impl_MapNode (.agg (#[(.int .u8 0), (.int .u8 0), (.int .u8 0), (.int .u8 0), (.int .u8 0), (.int .u8 0), (.int .u8 0), (.int .u8 0), (.int .u8 0), (.int .u8 0), (.int .u8 0), (.int .u8 0), (.int .u8 0), (.int .u8 0), (.int .u8 0), (.int .u8 0), (.int .u8 0), (.int .u8 0), (.int .u8 0), (.int .u8 0), (.int .u8 0), (.int .u8 0), (.int .u8 0), (.int .u8 0), (.int .u8 0), (.int .u8 0), (.int .u8 0), (.int .u8 0), (.int .u8 0), (.int .u8 0), (.int .u8 0), (.int .u8 0), (.int .u8 0), (.int .u8 0), (.int .u8 0), (.int .u8 0), (.int .u8 0), (.int .u8 0), (.int .u8 0), (.int .u8 0), (.int .u8 0), (.int .u8 0), (.int .u8 0), (.int .u8 0), (.int .u8 0), (.int .u8 0), (.int .u8 0), (.int .u8 0), (.int .u8 0), (.int .u8 0), (.int .u8 0), (.int .u8 0), (.int .u8 0), (.int .u8 0), (.int .u8 0), (.int .u8 0), (.int .u8 0), (.int .u8 0), (.int .u8 0), (.int .u8 0), (.int .u8 0), (.int .u8 0), (.int .u8 0), (.int .u8 0), (.string (⟨#[]⟩ : ByteArray)), (.string (⟨#[]⟩ : ByteArray))])) fun b4 =>
  C.st 66 (Addr.mk b4 0 none) (.agg y7) <|
  C.join (TL []) (embL []) (fun s8 => C.any fun _ =>
      C.ix x0.a x0.n 1 64 fun p18 =>
      C.ld (.int .u8) 1 p18 fun v19 =>
      cond (decide ((x0.n : Int) < (IntKind.wrap .i64 (65 + (IntKind.wrap .i64 (v19)))))) (
        C.ld .agg 66 (Addr.mk b4 0 none) fun v26 =>
        C.st 66 (Addr.mk b2 0 none) (.agg v26) <|
        C.ld .agg 66 (Addr.mk b2 0 none) fun z12 =>
        C.ret (.tuple #[(.agg z12), (.bool false)])
      ) (
        C.loop (TL [(.int .i64)]) (embL [(.int .i64)]) [(.int .i64 0)] fun s13 ct13 => C.any fun _ =>
        cond (decide (s13 < 32)) (
          C.ix x0.a x0.n 1 s13 fun p34 =>
          C.ld (.int .u8) 1 p34 fun v35 =>
          C.ix (some ((Addr.mk b4 0 none).add 0)) 32 1 s13 fun p37 =>
          C.st 1 p37 (.int .u8 v35) <|
          C.ix x0.a x0.n 1 (IntKind.wrap .i64 (32 + s13)) fun p42 =>
          C.ld (.int .u8) 1 p42 fun v43 =>
          C.ix (some ((Addr.mk b4 0 none).add 32)) 32 1 s13 fun p45 =>
          C.st 1 p45 (.int .u8 v43) <|
          ct13 [(.int .i64 (IntKind.wrap .i64 (s13 + 1)))]
        ) (
          C.draw <|
          C.sl x0.a x0.n x0.c 1 (some 65) (some (IntKind.wrap .i64 (65 + (IntKind.wrap .i64 (v19))))) none fun y49 =>
          C.sl x0.a x0.n x0.c 1 (some (IntKind.wrap .i64 (65 + (IntKind.wrap .i64 (v19))))) none none fun y54 =>
          C.all [
            (C.sem (convert ty_sl_uint8 ty_string (.slice y49.a y49.n y49.c)) .str fun y50 =>
             C.sem (convert ty_sl_uint8 ty_string (.slice y54.a y54.n y54.c)) .str fun y55 =>
             C.pur (Instr.build ty_impl_Entry #[(0, (.string y50)), (1, (.string y55))]) .agg fun y56 =>
             C.st 2 ((Addr.mk b4 0 none).add 64) (.agg y56) <|
             C.draw <|
             C.ld .agg 66 (Addr.mk b4 0 none) fun v58 =>
             C.call n_spec_l04Entry [(.pointer (some ((Addr.mk b4 0 none).add 64)))] [.bool] fun r60 =>
             C.chk [⟨0, 66, (Addr.mk b4 0 none), .agg, v58⟩] <|
             C.st 66 (Addr.mk b2 0 none) (.agg v58) <|
             C.ld .agg 66 (Addr.mk b2 0 none) fun z27 =>
             C.ret (.tuple #[(.agg z27), (.bool r60)])),
            (C.sem (convert ty_sl_uint8 ty_string (.slice y54.a y54.n y54.c)) .str fun y55 =>
             C.sem (convert ty_sl_uint8 ty_string (.slice y49.a y49.n y49.c)) .str fun y50 =>
             C.pur (Instr.build ty_impl_Entry #[(0, (.string y50)), (1, (.string y55))]) .agg fun y56 =>
             C.st 2 ((Addr.mk b4 0 none).add 64) (.agg y56) <|
             C.draw <|
             C.ld .agg 66 (Addr.mk b4 0 none) fun v58 =>
             C.call n_spec_l04Entry [(.pointer (some ((Addr.mk b4 0 none).add 64)))] [.bool] fun r60 =>
             C.chk [⟨0, 66, (Addr.mk b4 0 none), .agg, v58⟩] <|
             C.st 66 (Addr.mk b2 0 none) (.agg v58) <|
             C.ld .agg 66 (Addr.mk b2 0 none) fun z33 =>
             C.ret (.tuple #[(.agg z33), (.bool r60)]))]
        )
      )
    ) fun jt =>
  cond (decide ((x0.n : Int) < 66)) (
    C.ld .agg 66 (Addr.mk b4 0 none) fun v16 =>
    C.st 66 (Addr.mk b2 0 none) (.agg v16) <|
    C.ld .agg 66 (Addr.mk b2 0 none) fun z5 =>
    C.ret (.tuple #[(.agg z5), (.bool false)])
  ) (
    cond (decide ((x0.n : Int) > 153)) (
      C.ld .agg 66 (Addr.mk b4 0 none) fun v16 =>
      C.st 66 (Addr.mk b2 0 none) (.agg v16) <|
      C.ld .agg 66 (Addr.mk b2 0 none) fun z7 =>
      C.ret (.tuple #[(.agg z7), (.bool false)])
    ) (
      jt []
    )
  )
theorem spec_l04Read_eq (C : Comb) (x0 : Sl) : fT C Tryz.prog { loop := [(8, [(6, (.int .i64))])], join := [(45, [])], anyOrder := [12, 13], pure := [] } n_spec_l04Read [(.slice x0.a x0.n x0.c)] = spec_l04Read C x0 := by kernel_rfl
theorem spec_l04Read_calls {R : Value → World → Prop} {w : World} (x0 : Sl) (h : (spec_l04Read (real Tryz.prog R) x0 : World → Prop) w) :
    Calls Tryz.prog n_spec_l04Read [(.slice x0.a x0.n x0.c)].toArray w fun e w' => ∃ v, e = .returned v ∧ R v w' := fT_sound mixed { loop := [(8, [(6, (.int .i64))])], join := [(45, [])], anyOrder := [12, 13], pure := [] } (by rw [spec_l04Read_eq]; exact h)

/-- (impl.MapNode).next (175) -/
def impl_MapNode_next (C : Comb) (x0 : Array Value) (x1 : ByteArray) : C.St :=
  C.new ty_impl_MapNode (.agg x0) fun b2 =>
  C.new ty_impl_Key (.agg (Array.replicate 32 (.int .u8 0))) fun b4 =>
  C.ld .str 1 (((Addr.mk b2 0 none).add 64).add 0) fun v8 =>
  C.pur (eqB .lss ty_string (.tmp 5) (.tmp 8) (.string x1) (.string v8)) .bool fun y9 =>
  cond y9 (
    C.ld .agg 32 ((Addr.mk b2 0 none).add 0) fun v11 =>
    C.st 32 (Addr.mk b4 0 none) (.agg v11) <|
    C.ld .agg 32 (Addr.mk b4 0 none) fun z6 =>
    C.ret (.agg z6)
  ) (
    C.ld .agg 32 ((Addr.mk b2 0 none).add 32) fun v13 =>
    C.st 32 (Addr.mk b4 0 none) (.agg v13) <|
    C.ld .agg 32 (Addr.mk b4 0 none) fun z8 =>
    C.ret (.agg z8)
  )
theorem impl_MapNode_next_eq (C : Comb) (x0 : Array Value) (x1 : ByteArray) : fT C Tryz.prog { loop := [], join := [], anyOrder := [], pure := [] } n_impl_MapNode_next [(.agg x0), (.string x1)] = impl_MapNode_next C x0 x1 := by kernel_rfl
theorem impl_MapNode_next_calls {R : Value → World → Prop} {w : World} (x0 : Array Value) (x1 : ByteArray) (h : (impl_MapNode_next (real Tryz.prog R) x0 x1 : World → Prop) w) :
    Calls Tryz.prog n_impl_MapNode_next [(.agg x0), (.string x1)].toArray w fun e w' => ∃ v, e = .returned v ∧ R v w' := fT_sound mixed { loop := [], join := [], anyOrder := [], pure := [] } (by rw [impl_MapNode_next_eq]; exact h)

/-- impl.ReadMapNode (176) -/
def impl_ReadMapNode (C : Comb) (x0 : Sl) : C.St :=
  C.new ty_impl_MapNode (.agg (#[(.int .u8 0), (.int .u8 0), (.int .u8 0), (.int .u8 0), (.int .u8 0), (.int .u8 0), (.int .u8 0), (.int .u8 0), (.int .u8 0), (.int .u8 0), (.int .u8 0), (.int .u8 0), (.int .u8 0), (.int .u8 0), (.int .u8 0), (.int .u8 0), (.int .u8 0), (.int .u8 0), (.int .u8 0), (.int .u8 0), (.int .u8 0), (.int .u8 0), (.int .u8 0), (.int .u8 0), (.int .u8 0), (.int .u8 0), (.int .u8 0), (.int .u8 0), (.int .u8 0), (.int .u8 0), (.int .u8 0), (.int .u8 0), (.int .u8 0), (.int .u8 0), (.int .u8 0), (.int .u8 0), (.int .u8 0), (.int .u8 0), (.int .u8 0), (.int .u8 0), (.int .u8 0), (.int .u8 0), (.int .u8 0), (.int .u8 0), (.int .u8 0), (.int .u8 0), (.int .u8 0), (.int .u8 0), (.int .u8 0), (.int .u8 0), (.int .u8 0), (.int .u8 0), (.int .u8 0), (.int .u8 0), (.int .u8 0), (.int .u8 0), (.int .u8 0), (.int .u8 0), (.int .u8 0), (.int .u8 0), (.int .u8 0), (.int .u8 0), (.int .u8 0), (.int .u8 0), (.string (⟨#[]⟩ : ByteArray)), (.string (⟨#[]⟩ : ByteArray))])) fun b2 =>
  C.join (TL []) (embL []) (fun s8 => C.any fun _ =>
      C.ix x0.a x0.n 1 64 fun p21 =>
      C.ld (.int .u8) 1 p21 fun v22 =>
      C.join (TL [.ptr]) (embL [.ptr]) (fun s45 => C.any fun _ =>
          C.ld .agg 2 (s45.add 64) fun v43 =>
          C.call n_impl_ValidEntry [(.agg v43)] [.bool] fun r44 =>
          cond (!r44) (
            C.pur (Instr.build ty_impl_MapNode #[]) .agg fun y46 =>
            C.st 66 (Addr.mk b2 0 none) (.agg y46) <|
            C.ld .agg 66 (Addr.mk b2 0 none) fun z49 =>
            C.ret (.tuple #[(.agg z49), (.int .i64 5)])
          ) (
            C.ld .agg 66 s45 fun v47 =>
            C.st 66 (Addr.mk b2 0 none) (.agg v47) <|
            C.ld .agg 66 (Addr.mk b2 0 none) fun z51 =>
            C.ret (.tuple #[(.agg z51), (.int .i64 0)])
          )
        ) fun jt =>
      C.draw <|
      C.pur (Instr.arrayAt ty_impl_Key (.slice x0.a x0.n x0.c)) .ptr fun y26 =>
      C.ld .agg 32 y26 fun v27 =>
      C.sl x0.a x0.n x0.c 1 (some 32) none none fun y29 =>
      C.pur (Instr.arrayAt ty_impl_Key (.slice y29.a y29.n y29.c)) .ptr fun y30 =>
      C.ld .agg 32 y30 fun v31 =>
      C.sl x0.a x0.n x0.c 1 (some 65) (some (IntKind.wrap .i64 (65 + (IntKind.wrap .i64 (v22))))) none fun y34 =>
      C.sl x0.a x0.n x0.c 1 (some (IntKind.wrap .i64 (65 + (IntKind.wrap .i64 (v22))))) none none fun y38 =>
      C.all [
        (C.sem (convert ty_sl_uint8 ty_string (.slice y34.a y34.n y34.c)) .str fun y35 =>
         C.chk [⟨6, 32, y30, .agg, v31⟩, ⟨2, 32, y26, .agg, v27⟩] <|
         C.all [
           (C.sem (convert ty_sl_uint8 ty_string (.slice y38.a y38.n y38.c)) .str fun y39 =>
            C.chk [⟨6, 32, y30, .agg, v31⟩, ⟨2, 32, y26, .agg, v27⟩] <|
            C.pur (Instr.build ty_impl_Entry #[(0, (.string y35)), (1, (.string y39))]) .agg fun y40 =>
            C.pur (Instr.build ty_impl_MapNode #[(0, (.agg v27)), (1, (.agg v31)), (2, (.agg y40))]) .agg fun y41 =>
            C.new ty_impl_MapNode (.agg (#[(.int .u8 0), (.int .u8 0), (.int .u8 0), (.int .u8 0), (.int .u8 0), (.int .u8 0), (.int .u8 0), (.int .u8 0), (.int .u8 0), (.int .u8 0), (.int .u8 0), (.int .u8 0), (.int .u8 0), (.int .u8 0), (.int .u8 0), (.int .u8 0), (.int .u8 0), (.int .u8 0), (.int .u8 0), (.int .u8 0), (.int .u8 0), (.int .u8 0), (.int .u8 0), (.int .u8 0), (.int .u8 0), (.int .u8 0), (.int .u8 0), (.int .u8 0), (.int .u8 0), (.int .u8 0), (.int .u8 0), (.int .u8 0), (.int .u8 0), (.int .u8 0), (.int .u8 0), (.int .u8 0), (.int .u8 0), (.int .u8 0), (.int .u8 0), (.int .u8 0), (.int .u8 0), (.int .u8 0), (.int .u8 0), (.int .u8 0), (.int .u8 0), (.int .u8 0), (.int .u8 0), (.int .u8 0), (.int .u8 0), (.int .u8 0), (.int .u8 0), (.int .u8 0), (.int .u8 0), (.int .u8 0), (.int .u8 0), (.int .u8 0), (.int .u8 0), (.int .u8 0), (.int .u8 0), (.int .u8 0), (.int .u8 0), (.int .u8 0), (.int .u8 0), (.int .u8 0), (.string (⟨#[]⟩ : ByteArray)), (.string (⟨#[]⟩ : ByteArray))])) fun b5 =>
            C.chk [⟨6, 32, y30, .agg, v31⟩, ⟨2, 32, y26, .agg, v27⟩] <|
            C.st 66 (Addr.mk b5 0 none) (.agg y41) <|
            jt [(.pointer (some (Addr.mk b5 0 none)))]),
           (C.new ty_impl_MapNode (.agg (#[(.int .u8 0), (.int .u8 0), (.int .u8 0), (.int .u8 0), (.int .u8 0), (.int .u8 0), (.int .u8 0), (.int .u8 0), (.int .u8 0), (.int .u8 0), (.int .u8 0), (.int .u8 0), (.int .u8 0), (.int .u8 0), (.int .u8 0), (.int .u8 0), (.int .u8 0), (.int .u8 0), (.int .u8 0), (.int .u8 0), (.int .u8 0), (.int .u8 0), (.int .u8 0), (.int .u8 0), (.int .u8 0), (.int .u8 0), (.int .u8 0), (.int .u8 0), (.int .u8 0), (.int .u8 0), (.int .u8 0), (.int .u8 0), (.int .u8 0), (.int .u8 0), (.int .u8 0), (.int .u8 0), (.int .u8 0), (.int .u8 0), (.int .u8 0), (.int .u8 0), (.int .u8 0), (.int .u8 0), (.int .u8 0), (.int .u8 0), (.int .u8 0), (.int .u8 0), (.int .u8 0), (.int .u8 0), (.int .u8 0), (.int .u8 0), (.int .u8 0), (.int .u8 0), (.int .u8 0), (.int .u8 0), (.int .u8 0), (.int .u8 0), (.int .u8 0), (.int .u8 0), (.int .u8 0), (.int .u8 0), (.int .u8 0), (.int .u8 0), (.int .u8 0), (.int .u8 0), (.string (⟨#[]⟩ : ByteArray)), (.string (⟨#[]⟩ : ByteArray))])) fun b5 =>
            C.chk [⟨6, 32, y30, .agg, v31⟩, ⟨2, 32, y26, .agg, v27⟩] <|
            C.sem (convert ty_sl_uint8 ty_string (.slice y38.a y38.n y38.c)) .str fun y39 =>
            C.chk [⟨6, 32, y30, .agg, v31⟩, ⟨2, 32, y26, .agg, v27⟩] <|
            C.pur (Instr.build ty_impl_Entry #[(0, (.string y35)), (1, (.string y39))]) .agg fun y40 =>
            C.pur (Instr.build ty_impl_MapNode #[(0, (.agg v27)), (1, (.agg v31)), (2, (.agg y40))]) .agg fun y41 =>
            C.st 66 (Addr.mk b5 0 none) (.agg y41) <|
            jt [(.pointer (some (Addr.mk b5 0 none)))])]),
        (C.sem (convert ty_sl_uint8 ty_string (.slice y38.a y38.n y38.c)) .str fun y39 =>
         C.chk [⟨6, 32, y30, .agg, v31⟩, ⟨2, 32, y26, .agg, v27⟩] <|
         C.all [
           (C.sem (convert ty_sl_uint8 ty_string (.slice y34.a y34.n y34.c)) .str fun y35 =>
            C.chk [⟨6, 32, y30, .agg, v31⟩, ⟨2, 32, y26, .agg, v27⟩] <|
            C.pur (Instr.build ty_impl_Entry #[(0, (.string y35)), (1, (.string y39))]) .agg fun y40 =>
            C.pur (Instr.build ty_impl_MapNode #[(0, (.agg v27)), (1, (.agg v31)), (2, (.agg y40))]) .agg fun y41 =>
            C.new ty_impl_MapNode (.agg (#[(.int .u8 0), (.int .u8 0), (.int .u8 0), (.int .u8 0), (.int .u8 0), (.int .u8 0), (.int .u8 0), (.int .u8 0), (.int .u8 0), (.int .u8 0), (.int .u8 0), (.int .u8 0), (.int .u8 0), (.int .u8 0), (.int .u8 0), (.int .u8 0), (.int .u8 0), (.int .u8 0), (.int .u8 0), (.int .u8 0), (.int .u8 0), (.int .u8 0), (.int .u8 0), (.int .u8 0), (.int .u8 0), (.int .u8 0), (.int .u8 0), (.int .u8 0), (.int .u8 0), (.int .u8 0), (.int .u8 0), (.int .u8 0), (.int .u8 0), (.int .u8 0), (.int .u8 0), (.int .u8 0), (.int .u8 0), (.int .u8 0), (.int .u8 0), (.int .u8 0), (.int .u8 0), (.int .u8 0), (.int .u8 0), (.int .u8 0), (.int .u8 0), (.int .u8 0), (.int .u8 0), (.int .u8 0), (.int .u8 0), (.int .u8 0), (.int .u8 0), (.int .u8 0), (.int .u8 0), (.int .u8 0), (.int .u8 0), (.int .u8 0), (.int .u8 0), (.int .u8 0), (.int .u8 0), (.int .u8 0), (.int .u8 0), (.int .u8 0), (.int .u8 0), (.int .u8 0), (.string (⟨#[]⟩ : ByteArray)), (.string (⟨#[]⟩ : ByteArray))])) fun b5 =>
            C.chk [⟨6, 32, y30, .agg, v31⟩, ⟨2, 32, y26, .agg, v27⟩] <|
            C.st 66 (Addr.mk b5 0 none) (.agg y41) <|
            jt [(.pointer (some (Addr.mk b5 0 none)))]),
           (C.new ty_impl_MapNode (.agg (#[(.int .u8 0), (.int .u8 0), (.int .u8 0), (.int .u8 0), (.int .u8 0), (.int .u8 0), (.int .u8 0), (.int .u8 0), (.int .u8 0), (.int .u8 0), (.int .u8 0), (.int .u8 0), (.int .u8 0), (.int .u8 0), (.int .u8 0), (.int .u8 0), (.int .u8 0), (.int .u8 0), (.int .u8 0), (.int .u8 0), (.int .u8 0), (.int .u8 0), (.int .u8 0), (.int .u8 0), (.int .u8 0), (.int .u8 0), (.int .u8 0), (.int .u8 0), (.int .u8 0), (.int .u8 0), (.int .u8 0), (.int .u8 0), (.int .u8 0), (.int .u8 0), (.int .u8 0), (.int .u8 0), (.int .u8 0), (.int .u8 0), (.int .u8 0), (.int .u8 0), (.int .u8 0), (.int .u8 0), (.int .u8 0), (.int .u8 0), (.int .u8 0), (.int .u8 0), (.int .u8 0), (.int .u8 0), (.int .u8 0), (.int .u8 0), (.int .u8 0), (.int .u8 0), (.int .u8 0), (.int .u8 0), (.int .u8 0), (.int .u8 0), (.int .u8 0), (.int .u8 0), (.int .u8 0), (.int .u8 0), (.int .u8 0), (.int .u8 0), (.int .u8 0), (.int .u8 0), (.string (⟨#[]⟩ : ByteArray)), (.string (⟨#[]⟩ : ByteArray))])) fun b5 =>
            C.chk [⟨6, 32, y30, .agg, v31⟩, ⟨2, 32, y26, .agg, v27⟩] <|
            C.sem (convert ty_sl_uint8 ty_string (.slice y34.a y34.n y34.c)) .str fun y35 =>
            C.chk [⟨6, 32, y30, .agg, v31⟩, ⟨2, 32, y26, .agg, v27⟩] <|
            C.pur (Instr.build ty_impl_Entry #[(0, (.string y35)), (1, (.string y39))]) .agg fun y40 =>
            C.pur (Instr.build ty_impl_MapNode #[(0, (.agg v27)), (1, (.agg v31)), (2, (.agg y40))]) .agg fun y41 =>
            C.st 66 (Addr.mk b5 0 none) (.agg y41) <|
            jt [(.pointer (some (Addr.mk b5 0 none)))])]),
        (C.new ty_impl_MapNode (.agg (#[(.int .u8 0), (.int .u8 0), (.int .u8 0), (.int .u8 0), (.int .u8 0), (.int .u8 0), (.int .u8 0), (.int .u8 0), (.int .u8 0), (.int .u8 0), (.int .u8 0), (.int .u8 0), (.int .u8 0), (.int .u8 0), (.int .u8 0), (.int .u8 0), (.int .u8 0), (.int .u8 0), (.int .u8 0), (.int .u8 0), (.int .u8 0), (.int .u8 0), (.int .u8 0), (.int .u8 0), (.int .u8 0), (.int .u8 0), (.int .u8 0), (.int .u8 0), (.int .u8 0), (.int .u8 0), (.int .u8 0), (.int .u8 0), (.int .u8 0), (.int .u8 0), (.int .u8 0), (.int .u8 0), (.int .u8 0), (.int .u8 0), (.int .u8 0), (.int .u8 0), (.int .u8 0), (.int .u8 0), (.int .u8 0), (.int .u8 0), (.int .u8 0), (.int .u8 0), (.int .u8 0), (.int .u8 0), (.int .u8 0), (.int .u8 0), (.int .u8 0), (.int .u8 0), (.int .u8 0), (.int .u8 0), (.int .u8 0), (.int .u8 0), (.int .u8 0), (.int .u8 0), (.int .u8 0), (.int .u8 0), (.int .u8 0), (.int .u8 0), (.int .u8 0), (.int .u8 0), (.string (⟨#[]⟩ : ByteArray)), (.string (⟨#[]⟩ : ByteArray))])) fun b5 =>
         C.chk [⟨6, 32, y30, .agg, v31⟩, ⟨2, 32, y26, .agg, v27⟩] <|
         C.all [
           (C.sem (convert ty_sl_uint8 ty_string (.slice y34.a y34.n y34.c)) .str fun y35 =>
            C.chk [⟨6, 32, y30, .agg, v31⟩, ⟨2, 32, y26, .agg, v27⟩] <|
            C.sem (convert ty_sl_uint8 ty_string (.slice y38.a y38.n y38.c)) .str fun y39 =>
            C.chk [⟨6, 32, y30, .agg, v31⟩, ⟨2, 32, y26, .agg, v27⟩] <|
            C.pur (Instr.build ty_impl_Entry #[(0, (.string y35)), (1, (.string y39))]) .agg fun y40 =>
            C.pur (Instr.build ty_impl_MapNode #[(0, (.agg v27)), (1, (.agg v31)), (2, (.agg y40))]) .agg fun y41 =>
            C.st 66 (Addr.mk b5 0 none) (.agg y41) <|
            jt [(.pointer (some (Addr.mk b5 0 none)))]),
           (C.sem (convert ty_sl_uint8 ty_string (.slice y38.a y38.n y38.c)) .str fun y39 =>
            C.chk [⟨6, 32, y30, .agg, v31⟩, ⟨2, 32, y26, .agg, v27⟩] <|
            C.sem (convert ty_sl_uint8 ty_string (.slice y34.a y34.n y34.c)) .str fun y35 =>
            C.chk [⟨6, 32, y30, .agg, v31⟩, ⟨2, 32, y26, .agg, v27⟩] <|
            C.pur (Instr.build ty_impl_Entry #[(0, (.string y35)), (1, (.string y39))]) .agg fun y40 =>
            C.pur (Instr.build ty_impl_MapNode #[(0, (.agg v27)), (1, (.agg v31)), (2, (.agg y40))]) .agg fun y41 =>
            C.st 66 (Addr.mk b5 0 none) (.agg y41) <|
            jt [(.pointer (some (Addr.mk b5 0 none)))])])]
    ) fun jt =>
  cond (decide ((x0.n : Int) < 65)) (
    C.pur (Instr.build ty_impl_MapNode #[]) .agg fun y19 =>
    C.st 66 (Addr.mk b2 0 none) (.agg y19) <|
    C.ld .agg 66 (Addr.mk b2 0 none) fun z3 =>
    C.ret (.tuple #[(.agg z3), (.int .i64 5)])
  ) (
    C.ix x0.a x0.n 1 64 fun p13 =>
    C.ld (.int .u8) 1 p13 fun v14 =>
    cond (decide ((x0.n : Int) < (IntKind.wrap .i64 (65 + (IntKind.wrap .i64 (v14)))))) (
      C.pur (Instr.build ty_impl_MapNode #[]) .agg fun y19 =>
      C.st 66 (Addr.mk b2 0 none) (.agg y19) <|
      C.ld .agg 66 (Addr.mk b2 0 none) fun z7 =>
      C.ret (.tuple #[(.agg z7), (.int .i64 5)])
    ) (
      jt []
    )
  )
theorem impl_ReadMapNode_eq (C : Comb) (x0 : Sl) : fT C Tryz.prog { loop := [], join := [(54, []), (13, [(5, .ptr)])], anyOrder := [4], pure := [] } n_impl_ReadMapNode [(.slice x0.a x0.n x0.c)] = impl_ReadMapNode C x0 := by kernel_rfl
theorem impl_ReadMapNode_calls {R : Value → World → Prop} {w : World} (x0 : Sl) (h : (impl_ReadMapNode (real Tryz.prog R) x0 : World → Prop) w) :
    Calls Tryz.prog n_impl_ReadMapNode [(.slice x0.a x0.n x0.c)].toArray w fun e w' => ∃ v, e = .returned v ∧ R v w' := fT_sound mixed { loop := [], join := [(54, []), (13, [(5, .ptr)])], anyOrder := [4], pure := [] } (by rw [impl_ReadMapNode_eq]; exact h)

/-- spec.l01End (177) -/
def spec_l01End (C : Comb) (x0 : Array Value) (x1 : Sl) (x2 : Int) : C.St :=
  C.new ty_arr8_uint32 (.agg x0) fun b3 =>
  C.new ty_impl_Key (.agg (Array.replicate 32 (.int .u8 0))) fun b6 =>
  C.call n_spec_l01Padded [(.slice x1.a x1.n x1.c), (.int .i64 x2)] [.slice] fun r13 =>
  C.loop (TL [(.int .i64)]) (embL [(.int .i64)]) [(.int .i64 0)] fun s4 ct4 => C.any fun _ =>
  cond (decide (s4 < (r13.n : Int))) (
    C.draw <|
    C.ld .agg 8 (Addr.mk b3 0 none) fun v20 =>
    C.call n_spec_l01Block [(.slice r13.a r13.n r13.c), (.int .i64 s4)] [.agg] fun r23 =>
    C.chk [⟨0, 8, (Addr.mk b3 0 none), .agg, v20⟩] <|
    C.call n_spec_l01Mix [(.agg v20), (.agg r23)] [.agg] fun r24 =>
    C.st 8 (Addr.mk b3 0 none) (.agg r24) <|
    ct4 [(.int .i64 (IntKind.wrap .i64 (s4 + 32)))]
  ) (
    C.new ty_impl_Key (.agg (Array.replicate 32 (.int .u8 0))) fun b9 =>
    C.st 32 (Addr.mk b9 0 none) (.agg (Array.replicate 32 (.int .u8 0))) <|
    C.loop (TL [(.int .i64)]) (embL [(.int .i64)]) [(.int .i64 0)] fun s9 ct9 => C.any fun _ =>
    cond (decide (s9 < 32)) (
      C.ix (some (Addr.mk b3 0 none)) 8 1 (IntKind.wrap .i64 (Int.tdiv s9 4)) fun p33 =>
      C.ld (.int .u32) 1 p33 fun v34 =>
      C.pur (eqB .shr ty_uint32 (.tmp 34) (.tmp 38) (.int .u32 v34) (.int .u64 (IntKind.wrap .u64 ((IntKind.wrap .i64 (8 * (Int.tmod s9 4))))))) (.int .u32) fun y39 =>
      C.ix (some (Addr.mk b9 0 none)) 32 1 s9 fun p41 =>
      C.st 1 p41 (.int .u8 (IntKind.wrap .u8 (y39))) <|
      ct9 [(.int .i64 (IntKind.wrap .i64 (s9 + 1)))]
    ) (
      C.ld .agg 32 (Addr.mk b9 0 none) fun v42 =>
      C.st 32 (Addr.mk b6 0 none) (.agg v42) <|
      C.ld .agg 32 (Addr.mk b6 0 none) fun z15 =>
      C.ret (.agg z15)
    )
  )
theorem spec_l01End_eq (C : Comb) (x0 : Array Value) (x1 : Sl) (x2 : Int) : fT C Tryz.prog { loop := [(3, [(8, (.int .i64))]), (8, [(10, (.int .i64))])], join := [], anyOrder := [5], pure := [] } n_spec_l01End [(.agg x0), (.slice x1.a x1.n x1.c), (.int .i64 x2)] = spec_l01End C x0 x1 x2 := by kernel_rfl
theorem spec_l01End_calls {R : Value → World → Prop} {w : World} (x0 : Array Value) (x1 : Sl) (x2 : Int) (h : (spec_l01End (real Tryz.prog R) x0 x1 x2 : World → Prop) w) :
    Calls Tryz.prog n_spec_l01End [(.agg x0), (.slice x1.a x1.n x1.c), (.int .i64 x2)].toArray w fun e w' => ∃ v, e = .returned v ∧ R v w' := fT_sound mixed { loop := [(3, [(8, (.int .i64))]), (8, [(10, (.int .i64))])], join := [], anyOrder := [5], pure := [] } (by rw [spec_l01End_eq]; exact h)

/-- spec.l01Start (178) -/
def spec_l01Start (C : Comb) (x0 : Int) : C.St :=
  C.new ty_arr8_uint32 (.agg (Array.replicate 8 (.int .u32 0))) fun b2 =>
  C.new ty_arr8_uint32 (.agg (Array.replicate 8 (.int .u32 0))) fun b3 =>
  C.st 8 (Addr.mk b3 0 none) (.agg (Array.replicate 8 (.int .u32 0))) <|
  C.loop (TL [(.int .i64)]) (embL [(.int .i64)]) [(.int .i64 0)] fun s3 ct3 => C.any fun _ =>
  cond (decide (s3 < 8)) (
    C.ix (some (Addr.mk b3 0 none)) 8 1 s3 fun p18 =>
    C.st 1 p18 (.int .u32 (IntKind.wrap .u32 ((IntKind.wrap .u32 (16777619 * (IntKind.wrap .u32 ((IntKind.wrap .i64 (s3 + 1)))))) + (IntKind.wrap .u32 (x0))))) <|
    ct3 [(.int .i64 (IntKind.wrap .i64 (s3 + 1)))]
  ) (
    C.ld .agg 8 (Addr.mk b3 0 none) fun v19 =>
    C.st 8 (Addr.mk b2 0 none) (.agg v19) <|
    C.ld .agg 8 (Addr.mk b2 0 none) fun z6 =>
    C.ret (.agg z6)
  )
theorem spec_l01Start_eq (C : Comb) (x0 : Int) : fT C Tryz.prog { loop := [(3, [(4, (.int .i64))])], join := [], anyOrder := [], pure := [] } n_spec_l01Start [(.int .u8 x0)] = spec_l01Start C x0 := by kernel_rfl
theorem spec_l01Start_calls {R : Value → World → Prop} {w : World} (x0 : Int) (h : (spec_l01Start (real Tryz.prog R) x0 : World → Prop) w) :
    Calls Tryz.prog n_spec_l01Start [(.int .u8 x0)].toArray w fun e w' => ∃ v, e = .returned v ∧ R v w' := fT_sound mixed { loop := [(3, [(4, (.int .i64))])], join := [], anyOrder := [], pure := [] } (by rw [spec_l01Start_eq]; exact h)

/-- slices.IndexFunc[[]impl.Blob,impl.Blob] (179) -/
def slices_IndexFunc_sl_impl_Blob_impl_Blob (C : Comb) (x0 : Sl) (x1 : Value) : C.St :=
  C.loop (TL [(.int .i64)]) (embL [(.int .i64)]) [(.int .i64 0)] fun s1 ct1 => C.any fun _ =>
  cond (decide (s1 < (x0.n : Int))) (
    C.ix x0.a x0.n 2 s1 fun p14 =>
    C.ld .agg 2 p14 fun v15 =>
    C.callV x1 [(.agg v15)] [.bool] fun r16 =>
    cond r16 (
      C.ret (.int .i64 s1)
    ) (
      ct1 [(.int .i64 (IntKind.wrap .i64 (s1 + 1)))]
    )
  ) (
    C.ret (.int .i64 (-1))
  )
theorem slices_IndexFunc_sl_impl_Blob_impl_Blob_eq (C : Comb) (x0 : Sl) (x1 : Value) : fT C Tryz.prog { loop := [(2, [(8, (.int .i64))])], join := [], anyOrder := [], pure := [] } n_slices_IndexFunc_sl_impl_Blob_impl_Blob [(.slice x0.a x0.n x0.c), x1] = slices_IndexFunc_sl_impl_Blob_impl_Blob C x0 x1 := by kernel_rfl
theorem slices_IndexFunc_sl_impl_Blob_impl_Blob_calls {R : Value → World → Prop} {w : World} (x0 : Sl) (x1 : Value) (h : (slices_IndexFunc_sl_impl_Blob_impl_Blob (real Tryz.prog R) x0 x1 : World → Prop) w) :
    Calls Tryz.prog n_slices_IndexFunc_sl_impl_Blob_impl_Blob [(.slice x0.a x0.n x0.c), x1].toArray w fun e w' => ∃ v, e = .returned v ∧ R v w' := fT_sound mixed { loop := [(2, [(8, (.int .i64))])], join := [], anyOrder := [], pure := [] } (by rw [slices_IndexFunc_sl_impl_Blob_impl_Blob_eq]; exact h)

/-- slices.Clone[[]impl.Key,impl.Key] (180) -/
def slices_Clone_sl_impl_Key_impl_Key (C : Comb) (x0 : Sl) : C.St :=
  C.pur (eqB .eql ty_sl_impl_Key (.tmp 3) (.const (.slice none 0 0)) (.slice x0.a x0.n x0.c) (.slice none 0 0)) .bool fun y4 =>
  cond y4 (
    C.ret (.slice none 0 0)
  ) (
    C.sem (Instr.buildSlice ty_sl_impl_Key 0 #[]) .slice fun y5 =>
    C.sem (Builtin.append_ #[ty_sl_impl_Key, ty_sl_impl_Key] ty_sl_impl_Key #[(.slice y5.a y5.n y5.c), (.slice x0.a x0.n x0.c)]) .slice fun y7 =>
    C.ret (.slice y7.a y7.n y7.c)
  )
theorem slices_Clone_sl_impl_Key_impl_Key_eq (C : Comb) (x0 : Sl) : fT C Tryz.prog { loop := [], join := [], anyOrder := [], pure := [] } n_slices_Clone_sl_impl_Key_impl_Key [(.slice x0.a x0.n x0.c)] = slices_Clone_sl_impl_Key_impl_Key C x0 := by kernel_rfl
theorem slices_Clone_sl_impl_Key_impl_Key_calls {R : Value → World → Prop} {w : World} (x0 : Sl) (h : (slices_Clone_sl_impl_Key_impl_Key (real Tryz.prog R) x0 : World → Prop) w) :
    Calls Tryz.prog n_slices_Clone_sl_impl_Key_impl_Key [(.slice x0.a x0.n x0.c)].toArray w fun e w' => ∃ v, e = .returned v ∧ R v w' := fT_sound mixed { loop := [], join := [], anyOrder := [], pure := [] } (by rw [slices_Clone_sl_impl_Key_impl_Key_eq]; exact h)

/-- slices.Compact[[]impl.Key,impl.Key] (182) -/
def slices_Compact_sl_impl_Key_impl_Key (C : Comb) (x0 : Sl) : C.St :=
  cond (decide ((x0.n : Int) < 2)) (
    C.ret (.slice x0.a x0.n x0.c)
  ) (
    C.loop (TL [(.int .i64)]) (embL [(.int .i64)]) [(.int .i64 1)] fun s1 ct1 => C.any fun _ =>
    cond (decide (s1 < (x0.n : Int))) (
      C.draw <|
      C.ix x0.a x0.n 32 s1 fun p18 =>
      C.ld .agg 32 p18 fun v19 =>
      C.ix x0.a x0.n 32 (IntKind.wrap .i64 (s1 - 1)) fun p23 =>
      C.ld .agg 32 p23 fun v24 =>
      C.pur (eqB .eql ty_impl_Key (.tmp 19) (.tmp 24) (.agg v19) (.agg v24)) .bool fun y25 =>
      cond y25 (
        C.sl x0.a x0.n x0.c 32 (some s1) none none fun y28 =>
        C.loop (TL [(.int .i64), (.int .i64)]) (embL [(.int .i64), (.int .i64)]) [(.int .i64 s1), (.int .i64 1)] fun s8 ct8 => C.any fun _ =>
        cond (decide (s8.2 < (y28.n : Int))) (
          C.draw <|
          C.ix y28.a y28.n 32 s8.2 fun p37 =>
          C.ld .agg 32 p37 fun v38 =>
          C.ix y28.a y28.n 32 (IntKind.wrap .i64 (s8.2 - 1)) fun p42 =>
          C.ld .agg 32 p42 fun v43 =>
          C.pur (eqB .neq ty_impl_Key (.tmp 38) (.tmp 43) (.agg v38) (.agg v43)) .bool fun y44 =>
          cond y44 (
            C.ix y28.a y28.n 32 s8.2 fun p49 =>
            C.ld .agg 32 p49 fun v50 =>
            C.ix x0.a x0.n 32 s8.1 fun p51 =>
            C.st 32 p51 (.agg v50) <|
            ct8 [(.int .i64 (IntKind.wrap .i64 (s8.1 + 1))), (.int .i64 (IntKind.wrap .i64 (s8.2 + 1)))]
          ) (
            ct8 [(.int .i64 s8.1), (.int .i64 (IntKind.wrap .i64 (s8.2 + 1)))]
          )
        ) (
          C.sl x0.a x0.n x0.c 32 (some s8.1) none none fun y56 =>
          C.sem (Builtin.clear_ #[ty_sl_impl_Key] ty_x #[(.slice y56.a y56.n y56.c)]) .val fun yq18 =>
          C.sl x0.a x0.n x0.c 32 none (some s8.1) none fun y59 =>
          C.ret (.slice y59.a y59.n y59.c)
        )
      ) (
        ct1 [(.int .i64 (IntKind.wrap .i64 (s1 + 1)))]
      )
    ) (
      C.ret (.slice x0.a x0.n x0.c)
    )
  )
theorem slices_Compact_sl_impl_Key_impl_Key_eq (C : Comb) (x0 : Sl) : fT C Tryz.prog { loop := [(4, [(3, (.int .i64))]), (9, [(3, (.int .i64)), (5, (.int .i64))])], join := [], anyOrder := [], pure := [] } n_slices_Compact_sl_impl_Key_impl_Key [(.slice x0.a x0.n x0.c)] = slices_Compact_sl_impl_Key_impl_Key C x0 := by kernel_rfl
theorem slices_Compact_sl_impl_Key_impl_Key_calls {R : Value → World → Prop} {w : World} (x0 : Sl) (h : (slices_Compact_sl_impl_Key_impl_Key (real Tryz.prog R) x0 : World → Prop) w) :
    Calls Tryz.prog n_slices_Compact_sl_impl_Key_impl_Key [(.slice x0.a x0.n x0.c)].toArray w fun e w' => ∃ v, e = .returned v ∧ R v w' := fT_sound mixed { loop := [(4, [(3, (.int .i64))]), (9, [(3, (.int .i64)), (5, (.int .i64))])], join := [], anyOrder := [], pure := [] } (by rw [slices_Compact_sl_impl_Key_impl_Key_eq]; exact h)

/-- slices.Compare[[]byte,byte] (183) -/
def slices_Compare_sl_byte_byte (C : Comb) (x0 : Sl) (x1 : Sl) : C.St :=
  C.loop (TL [(.int .i64)]) (embL [(.int .i64)]) [(.int .i64 0)] fun s1 ct1 => C.any fun _ =>
  cond (decide (s1 < (x0.n : Int))) (
    C.ix x0.a x0.n 1 s1 fun p14 =>
    C.ld (.int .u8) 1 p14 fun v15 =>
    cond (decide (s1 ≥ (x1.n : Int))) (
      C.ret (.int .i64 1)
    ) (
      C.ix x1.a x1.n 1 s1 fun p22 =>
      C.ld (.int .u8) 1 p22 fun v23 =>
      C.call n_cmp_Compare_byte [(.int .u8 v15), (.int .u8 v23)] [(.int .i64)] fun r26 =>
      cond (r26 != 0) (
        C.ret (.int .i64 r26)
      ) (
        ct1 [(.int .i64 (IntKind.wrap .i64 (s1 + 1)))]
      )
    )
  ) (
    cond (decide ((x0.n : Int) < (x1.n : Int))) (
      C.ret (.int .i64 (-1))
    ) (
      C.ret (.int .i64 0)
    )
  )
theorem slices_Compare_sl_byte_byte_eq (C : Comb) (x0 : Sl) (x1 : Sl) : fT C Tryz.prog { loop := [(2, [(11, (.int .i64))])], join := [], anyOrder := [], pure := [] } n_slices_Compare_sl_byte_byte [(.slice x0.a x0.n x0.c), (.slice x1.a x1.n x1.c)] = slices_Compare_sl_byte_byte C x0 x1 := by kernel_rfl
theorem slices_Compare_sl_byte_byte_calls {R : Value → World → Prop} {w : World} (x0 : Sl) (x1 : Sl) (h : (slices_Compare_sl_byte_byte (real Tryz.prog R) x0 x1 : World → Prop) w) :
    Calls Tryz.prog n_slices_Compare_sl_byte_byte [(.slice x0.a x0.n x0.c), (.slice x1.a x1.n x1.c)].toArray w fun e w' => ∃ v, e = .returned v ∧ R v w' := fT_sound mixed { loop := [(2, [(11, (.int .i64))])], join := [], anyOrder := [], pure := [] } (by rw [slices_Compare_sl_byte_byte_eq]; exact h)

/-- impl.appendLittle (184) -/
def impl_appendLittle (C : Comb) (x0 : Sl) (x1 : Int) (x2 : Int) : C.St :=
  C.loop (TL [.slice, (.int .i64)]) (embL [.slice, (.int .i64)]) [(.slice x0.a x0.n x0.c), (.int .i64 0)] fun s1 ct1 => C.any fun _ =>
  cond (decide (s1.2 < x2)) (
    C.pur (eqB .shr ty_uint64 (.tmp 13) (.tmp 15) (.int .u64 x1) (.int .i64 (IntKind.wrap .i64 (8 * s1.2)))) (.int .u64) fun y16 =>
    C.sem (Instr.buildSlice ty_sl_uint8 1 #[(0, (.int .u8 (IntKind.wrap .u8 (y16))))]) .slice fun y18 =>
    C.sem (Builtin.append_ #[ty_sl_uint8, ty_sl_uint8] ty_sl_uint8 #[(.slice s1.1.a s1.1.n s1.1.c), (.slice y18.a y18.n y18.c)]) .slice fun y19 =>
    ct1 [(.slice y19.a y19.n y19.c), (.int .i64 (IntKind.wrap .i64 (s1.2 + 1)))]
  ) (
    C.ret (.slice s1.1.a s1.1.n s1.1.c)
  )
theorem impl_appendLittle_eq (C : Comb) (x0 : Sl) (x1 : Int) (x2 : Int) : fT C Tryz.prog { loop := [(2, [(0, .slice), (9, (.int .i64))])], join := [], anyOrder := [], pure := [] } n_impl_appendLittle [(.slice x0.a x0.n x0.c), (.int .u64 x1), (.int .i64 x2)] = impl_appendLittle C x0 x1 x2 := by kernel_rfl
theorem impl_appendLittle_calls {R : Value → World → Prop} {w : World} (x0 : Sl) (x1 : Int) (x2 : Int) (h : (impl_appendLittle (real Tryz.prog R) x0 x1 x2 : World → Prop) w) :
    Calls Tryz.prog n_impl_appendLittle [(.slice x0.a x0.n x0.c), (.int .u64 x1), (.int .i64 x2)].toArray w fun e w' => ∃ v, e = .returned v ∧ R v w' := fT_sound mixed { loop := [(2, [(0, .slice), (9, (.int .i64))])], join := [], anyOrder := [], pure := [] } (by rw [impl_appendLittle_eq]; exact h)

/-- impl.MixBlock (185) -/
def impl_MixBlock (C : Comb) (x0 : Array Value) (x1 : Array Value) : C.St :=
  C.new ty_arr8_uint32 (.agg x0) fun b2 =>
  C.new ty_arr32_uint8 (.agg x1) fun b3 =>
  C.new ty_arr8_uint32 (.agg (Array.replicate 8 (.int .u32 0))) fun b4 =>
  C.new ty_arr8_uint32 (.agg (Array.replicate 8 (.int .u32 0))) fun b5 =>
  C.st 8 (Addr.mk b5 0 none) (.agg (Array.replicate 8 (.int .u32 0))) <|
  C.loop (TL [(.int .i64)]) (embL [(.int .i64)]) [(.int .i64 0)] fun s5 ct5 => C.any fun _ =>
  cond (decide (s5 < 8)) (
    C.sl (some (Addr.mk b3 0 none)) 32 32 1 (some (IntKind.wrap .i64 (4 * s5))) (some (IntKind.wrap .i64 ((IntKind.wrap .i64 (4 * s5)) + 4))) none fun y23 =>
    C.call n_impl_littleNumber [(.slice y23.a y23.n y23.c)] [(.int .u64)] fun r24 =>
    C.ix (some (Addr.mk b5 0 none)) 8 1 s5 fun p26 =>
    C.st 1 p26 (.int .u32 (IntKind.wrap .u32 (r24))) <|
    ct5 [(.int .i64 (IntKind.wrap .i64 (s5 + 1)))]
  ) (
    C.ld .agg 8 (Addr.mk b2 0 none) fun v28 =>
    C.new ty_arr8_uint32 (.agg (Array.replicate 8 (.int .u32 0))) fun b7 =>
    C.st 8 (Addr.mk b7 0 none) (.agg v28) <|
    C.loop (TL [(.int .i64)]) (embL [(.int .i64)]) [(.int .i64 0)] fun s11 ct11 => C.any fun _ =>
    cond (decide (s11 < 12)) (
      C.loop (TL [(.int .i64)]) (embL [(.int .i64)]) [(.int .i64 0)] fun s12 ct12 => C.any fun _ =>
      cond (decide (s12 < 8)) (
        C.draw <|
        C.ix (some (Addr.mk b7 0 none)) 8 1 s12 fun p36 =>
        C.ld (.int .u32) 1 p36 fun v37 =>
        C.ix (some (Addr.mk b5 0 none)) 8 1 (Int.tmod (IntKind.wrap .i64 (s12 + (IntKind.wrap .i64 (3 * s11)))) 8) fun p43 =>
        C.ld (.int .u32) 1 p43 fun v44 =>
        C.draw <|
        C.callQ n_math_bits_RotateLeft32 [(.int .u32 (IntKind.wrap .u32 ((IntKind.wrap .u32 (v37 + v44)) + (IntKind.wrap .u32 (2654435769 * (IntKind.wrap .u32 ((IntKind.wrap .i64 ((IntKind.wrap .i64 ((IntKind.wrap .i64 (8 * s11)) + s12)) + 1))))))))), (.int .i64 7)] [(.int .u32)] fun r55 =>
        C.ix (some (Addr.mk b7 0 none)) 8 1 (Int.tmod (IntKind.wrap .i64 (s12 + 1)) 8) fun p59 =>
        C.ld (.int .u32) 1 p59 fun v60 =>
        C.ix (some (Addr.mk b7 0 none)) 8 1 (Int.tmod (IntKind.wrap .i64 (s12 + 5)) 8) fun p67 =>
        C.ld (.int .u32) 1 p67 fun v68 =>
        C.call n_math_bits_RotateLeft32 [(.int .u32 v68), (.int .i64 13)] [(.int .u32)] fun r69 =>
        C.ix (some (Addr.mk b7 0 none)) 8 1 s12 fun p71 =>
        C.st 1 p71 (.int .u32 (IntKind.wrap .u32 ((bitsI .xor .u32 r55 v60) + r69))) <|
        ct12 [(.int .i64 (IntKind.wrap .i64 (s12 + 1)))]
      ) (
        ct11 [(.int .i64 (IntKind.wrap .i64 (s11 + 1)))]
      )
    ) (
      C.loop (TL [(.int .i64)]) (embL [(.int .i64)]) [(.int .i64 0)] fun s24 ct24 => C.any fun _ =>
      cond (decide (s24 < 8)) (
        C.draw <|
        C.ix (some (Addr.mk b7 0 none)) 8 1 s24 fun p78 =>
        C.ld (.int .u32) 1 p78 fun v79 =>
        C.ix (some (Addr.mk b2 0 none)) 8 1 s24 fun p81 =>
        C.ld (.int .u32) 1 p81 fun v82 =>
        C.ix (some (Addr.mk b7 0 none)) 8 1 s24 fun p84 =>
        C.st 1 p84 (.int .u32 (bitsI .xor .u32 v79 v82)) <|
        ct24 [(.int .i64 (IntKind.wrap .i64 (s24 + 1)))]
      ) (
        C.ld .agg 8 (Addr.mk b7 0 none) fun v86 =>
        C.st 8 (Addr.mk b4 0 none) (.agg v86) <|
        C.ld .agg 8 (Addr.mk b4 0 none) fun z31 =>
        C.ret (.agg z31)
      )
    )
  )
theorem impl_MixBlock_eq (C : Comb) (x0 : Array Value) (x1 : Array Value) : fT C Tryz.prog { loop := [(3, [(14, (.int .i64))]), (9, [(29, (.int .i64))]), (12, [(32, (.int .i64))]), (20, [(74, (.int .i64))])], join := [], anyOrder := [22], pure := [] } n_impl_MixBlock [(.agg x0), (.agg x1)] = impl_MixBlock C x0 x1 := by kernel_rfl
theorem impl_MixBlock_calls {R : Value → World → Prop} {w : World} (x0 : Array Value) (x1 : Array Value) (h : (impl_MixBlock (real Tryz.prog R) x0 x1 : World → Prop) w) :
    Calls Tryz.prog n_impl_MixBlock [(.agg x0), (.agg x1)].toArray w fun e w' => ∃ v, e = .returned v ∧ R v w' := fT_sound mixed { loop := [(3, [(14, (.int .i64))]), (9, [(29, (.int .i64))]), (12, [(32, (.int .i64))]), (20, [(74, (.int .i64))])], join := [], anyOrder := [22], pure := [] } (by rw [impl_MixBlock_eq]; exact h)

/-- slices.BinarySearchFunc[[]impl.Key,impl.Key,impl.Key] (186) -/
def slices_BinarySearchFunc_sl_impl_Key_impl_Key_impl_Key (C : Comb) (x0 : Sl) (x1 : Array Value) (x2 : Value) : C.St :=
  C.new ty_impl_Key (.agg x1) fun b4 =>
  C.loop (TL [(.int .i64), (.int .i64)]) (embL [(.int .i64), (.int .i64)]) [(.int .i64 0), (.int .i64 (x0.n : Int))] fun s2 ct2 => C.any fun _ =>
  cond (decide (s2.1 < s2.2)) (
    C.draw <|
    C.ix x0.a x0.n 32 (IntKind.wrap .i64 ((Int.fdiv (IntKind.wrap .u64 ((IntKind.wrap .i64 (s2.1 + s2.2)))) (2 ^ 1)))) fun p27 =>
    C.ld .agg 32 p27 fun v28 =>
    C.ld .agg 32 (Addr.mk b4 0 none) fun v29 =>
    C.callV x2 [(.agg v28), (.agg v29)] [(.int .i64)] fun r30 =>
    cond (decide (r30 < 0)) (
      ct2 [(.int .i64 (IntKind.wrap .i64 ((IntKind.wrap .i64 ((Int.fdiv (IntKind.wrap .u64 ((IntKind.wrap .i64 (s2.1 + s2.2)))) (2 ^ 1)))) + 1))), (.int .i64 s2.2)]
    ) (
      ct2 [(.int .i64 s2.1), (.int .i64 (IntKind.wrap .i64 ((Int.fdiv (IntKind.wrap .u64 ((IntKind.wrap .i64 (s2.1 + s2.2)))) (2 ^ 1)))))]
    )
  ) (
    C.draw <|
    cond (decide (s2.1 < (x0.n : Int))) (
      C.ix x0.a x0.n 32 s2.1 fun p43 =>
      C.all [
        (C.ld .agg 32 p43 fun v44 =>
         C.ld .agg 32 (Addr.mk b4 0 none) fun v45 =>
         C.callV x2 [(.agg v44), (.agg v45)] [(.int .i64)] fun r46 =>
         C.ret (.tuple #[(.int .i64 s2.1), (.bool (r46 == 0))])),
        (C.ld .agg 32 (Addr.mk b4 0 none) fun v45 =>
         C.ld .agg 32 p43 fun v44 =>
         C.callV x2 [(.agg v44), (.agg v45)] [(.int .i64)] fun r46 =>
         C.ret (.tuple #[(.int .i64 s2.1), (.bool (r46 == 0))]))]
    ) (
      C.all [
        (C.ret (.tuple #[(.int .i64 s2.1), (.bool false)])),
        (C.ret (.tuple #[(.int .i64 s2.1), (.bool false)]))]
    )
  )
theorem slices_BinarySearchFunc_sl_impl_Key_impl_Key_impl_Key_eq (C : Comb) (x0 : Sl) (x1 : Array Value) (x2 : Value) : fT C Tryz.prog { loop := [(3, [(9, (.int .i64)), (10, (.int .i64))])], join := [], anyOrder := [5, 8], pure := [] } n_slices_BinarySearchFunc_sl_impl_Key_impl_Key_impl_Key [(.slice x0.a x0.n x0.c), (.agg x1), x2] = slices_BinarySearchFunc_sl_impl_Key_impl_Key_impl_Key C x0 x1 x2 := by kernel_rfl
theorem slices_BinarySearchFunc_sl_impl_Key_impl_Key_impl_Key_calls {R : Value → World → Prop} {w : World} (x0 : Sl) (x1 : Array Value) (x2 : Value) (h : (slices_BinarySearchFunc_sl_impl_Key_impl_Key_impl_Key (real Tryz.prog R) x0 x1 x2 : World → Prop) w) :
    Calls Tryz.prog n_slices_BinarySearchFunc_sl_impl_Key_impl_Key_impl_Key [(.slice x0.a x0.n x0.c), (.agg x1), x2].toArray w fun e w' => ∃ v, e = .returned v ∧ R v w' := fT_sound mixed { loop := [(3, [(9, (.int .i64)), (10, (.int .i64))])], join := [], anyOrder := [5, 8], pure := [] } (by rw [slices_BinarySearchFunc_sl_impl_Key_impl_Key_impl_Key_eq]; exact h)

/-- bytes.Equal (187) -/
def bytes_Equal (C : Comb) (x0 : Sl) (x1 : Sl) : C.St :=
  C.sem (convert ty_sl_uint8 ty_string (.slice x0.a x0.n x0.c)) .str fun y6 =>
  C.sem (convert ty_sl_uint8 ty_string (.slice x1.a x1.n x1.c)) .str fun y8 =>
  C.pur (eqB .eql ty_string (.tmp 6) (.tmp 8) (.string y6) (.string y8)) .bool fun y9 =>
  C.ret (.bool y9)
theorem bytes_Equal_eq (C : Comb) (x0 : Sl) (x1 : Sl) : fT C Tryz.prog { loop := [], join := [], anyOrder := [], pure := [] } n_bytes_Equal [(.slice x0.a x0.n x0.c), (.slice x1.a x1.n x1.c)] = bytes_Equal C x0 x1 := by kernel_rfl
theorem bytes_Equal_calls {R : Value → World → Prop} {w : World} (x0 : Sl) (x1 : Sl) (h : (bytes_Equal (real Tryz.prog R) x0 x1 : World → Prop) w) :
    Calls Tryz.prog n_bytes_Equal [(.slice x0.a x0.n x0.c), (.slice x1.a x1.n x1.c)].toArray w fun e w' => ∃ v, e = .returned v ∧ R v w' := fT_sound mixed { loop := [], join := [], anyOrder := [], pure := [] } (by rw [bytes_Equal_eq]; exact h)

/-- slices.rotateRight[impl.Key] (189) -/
def slices_rotateRight_impl_Key (C : Comb) (x0 : Sl) (x1 : Int) : C.St :=
  C.call n_slices_rotateLeft_impl_Key [(.slice x0.a x0.n x0.c), (.int .i64 (IntKind.wrap .i64 ((x0.n : Int) - x1)))] [] fun r9 =>
  C.ret (.tuple #[])
theorem slices_rotateRight_impl_Key_eq (C : Comb) (x0 : Sl) (x1 : Int) : fT C Tryz.prog { loop := [], join := [], anyOrder := [], pure := [] } n_slices_rotateRight_impl_Key [(.slice x0.a x0.n x0.c), (.int .i64 x1)] = slices_rotateRight_impl_Key C x0 x1 := by kernel_rfl
theorem slices_rotateRight_impl_Key_calls {R : Value → World → Prop} {w : World} (x0 : Sl) (x1 : Int) (h : (slices_rotateRight_impl_Key (real Tryz.prog R) x0 x1 : World → Prop) w) :
    Calls Tryz.prog n_slices_rotateRight_impl_Key [(.slice x0.a x0.n x0.c), (.int .i64 x1)].toArray w fun e w' => ∃ v, e = .returned v ∧ R v w' := fT_sound mixed { loop := [], join := [], anyOrder := [], pure := [] } (by rw [slices_rotateRight_impl_Key_eq]; exact h)

/-- slices.rotateRight[impl.Blob] (191) -/
def slices_rotateRight_impl_Blob (C : Comb) (x0 : Sl) (x1 : Int) : C.St :=
  C.call n_slices_rotateLeft_impl_Blob [(.slice x0.a x0.n x0.c), (.int .i64 (IntKind.wrap .i64 ((x0.n : Int) - x1)))] [] fun r9 =>
  C.ret (.tuple #[])
theorem slices_rotateRight_impl_Blob_eq (C : Comb) (x0 : Sl) (x1 : Int) : fT C Tryz.prog { loop := [], join := [], anyOrder := [], pure := [] } n_slices_rotateRight_impl_Blob [(.slice x0.a x0.n x0.c), (.int .i64 x1)] = slices_rotateRight_impl_Blob C x0 x1 := by kernel_rfl
theorem slices_rotateRight_impl_Blob_calls {R : Value → World → Prop} {w : World} (x0 : Sl) (x1 : Int) (h : (slices_rotateRight_impl_Blob (real Tryz.prog R) x0 x1 : World → Prop) w) :
    Calls Tryz.prog n_slices_rotateRight_impl_Blob [(.slice x0.a x0.n x0.c), (.int .i64 x1)].toArray w fun e w' => ∃ v, e = .returned v ∧ R v w' := fT_sound mixed { loop := [], join := [], anyOrder := [], pure := [] } (by rw [slices_rotateRight_impl_Blob_eq]; exact h)

/-- spec.l01Padded (192) -/
def spec_l01Padded (C : Comb) (x0 : Sl) (x1 : Int) : C.St :=
  C.sem (Instr.buildSlice ty_sl_uint8 0 #[]) .slice fun y7 =>
  C.sem (Builtin.append_ #[ty_sl_uint8, ty_sl_uint8] ty_sl_uint8 #[(.slice y7.a y7.n y7.c), (.slice x0.a x0.n x0.c)]) .slice fun y9 =>
  C.sem (Instr.buildSlice ty_sl_uint8 1 #[(0, (.int .u8 128))]) .slice fun y10 =>
  C.sem (Builtin.append_ #[ty_sl_uint8, ty_sl_uint8] ty_sl_uint8 #[(.slice y9.a y9.n y9.c), (.slice y10.a y10.n y10.c)]) .slice fun y11 =>
  C.loop (TL [.slice]) (embL [.slice]) [(.slice y11.a y11.n y11.c)] fun s5 ct5 => C.any fun _ =>
  cond ((Int.tmod (s5.n : Int) 32) != 24) (
    C.sem (Instr.buildSlice ty_sl_uint8 1 #[(0, (.int .u8 0))]) .slice fun y17 =>
    C.sem (Builtin.append_ #[ty_sl_uint8, ty_sl_uint8] ty_sl_uint8 #[(.slice s5.a s5.n s5.c), (.slice y17.a y17.n y17.c)]) .slice fun y18 =>
    ct5 [(.slice y18.a y18.n y18.c)]
  ) (
    C.loop (TL [(.int .i64), .slice, (.int .i64)]) (embL [(.int .i64), .slice, (.int .i64)]) [(.int .i64 x1), (.slice s5.a s5.n s5.c), (.int .i64 0)] fun s8 ct8 => C.any fun _ =>
    cond (decide (s8.2.2 < 8)) (
      C.sem (Instr.buildSlice ty_sl_uint8 1 #[(0, (.int .u8 (IntKind.wrap .u8 ((Int.tmod s8.1 256)))))]) .slice fun y27 =>
      C.sem (Builtin.append_ #[ty_sl_uint8, ty_sl_uint8] ty_sl_uint8 #[(.slice s8.2.1.a s8.2.1.n s8.2.1.c), (.slice y27.a y27.n y27.c)]) .slice fun y28 =>
      ct8 [(.int .i64 (IntKind.wrap .i64 (Int.tdiv s8.1 256))), (.slice y28.a y28.n y28.c), (.int .i64 (IntKind.wrap .i64 (s8.2.2 + 1)))]
    ) (
      C.ret (.slice s8.2.1.a s8.2.1.n s8.2.1.c)
    )
  )
theorem spec_l01Padded_eq (C : Comb) (x0 : Sl) (x1 : Int) : fT C Tryz.prog { loop := [(2, [(5, .slice)]), (5, [(1, (.int .i64)), (5, .slice), (6, (.int .i64))])], join := [], anyOrder := [], pure := [] } n_spec_l01Padded [(.slice x0.a x0.n x0.c), (.int .i64 x1)] = spec_l01Padded C x0 x1 := by kernel_rfl
theorem spec_l01Padded_calls {R : Value → World → Prop} {w : World} (x0 : Sl) (x1 : Int) (h : (spec_l01Padded (real Tryz.prog R) x0 x1 : World → Prop) w) :
    Calls Tryz.prog n_spec_l01Padded [(.slice x0.a x0.n x0.c), (.int .i64 x1)].toArray w fun e w' => ∃ v, e = .returned v ∧ R v w' := fT_sound mixed { loop := [(2, [(5, .slice)]), (5, [(1, (.int .i64)), (5, .slice), (6, (.int .i64))])], join := [], anyOrder := [], pure := [] } (by rw [spec_l01Padded_eq]; exact h)

/-- spec.l01Mix (193) -/
def spec_l01Mix (C : Comb) (x0 : Array Value) (x1 : Array Value) : C.St :=
  C.new ty_arr8_uint32 (.agg x0) fun b2 =>
  C.new ty_arr32_uint8 (.agg x1) fun b3 =>
  C.new ty_arr8_uint32 (.agg (Array.replicate 8 (.int .u32 0))) fun b4 =>
  C.new ty_arr8_uint32 (.agg (Array.replicate 8 (.int .u32 0))) fun b5 =>
  C.st 8 (Addr.mk b5 0 none) (.agg (Array.replicate 8 (.int .u32 0))) <|
  C.loop (TL [(.int .i64)]) (embL [(.int .i64)]) [(.int .i64 0)] fun s5 ct5 => C.any fun _ =>
  cond (decide (s5 < 8)) (
    C.loop (TL [(.int .i64)]) (embL [(.int .i64)]) [(.int .i64 3)] fun s6 ct6 => C.any fun _ =>
    cond (decide (s6 ≥ 0)) (
      C.draw <|
      C.ix (some (Addr.mk b5 0 none)) 8 1 s5 fun p25 =>
      C.ld (.int .u32) 1 p25 fun v26 =>
      C.ix (some (Addr.mk b3 0 none)) 32 1 (IntKind.wrap .i64 ((IntKind.wrap .i64 (4 * s5)) + s6)) fun p32 =>
      C.ld (.int .u8) 1 p32 fun v33 =>
      C.ix (some (Addr.mk b5 0 none)) 8 1 s5 fun p36 =>
      C.st 1 p36 (.int .u32 (bitsI .or .u32 (IntKind.wrap .u32 (v26 * 2 ^ 8)) (IntKind.wrap .u32 (v33)))) <|
      ct6 [(.int .i64 (IntKind.wrap .i64 (s6 - 1)))]
    ) (
      ct5 [(.int .i64 (IntKind.wrap .i64 (s5 + 1)))]
    )
  ) (
    C.ld .agg 8 (Addr.mk b2 0 none) fun v37 =>
    C.new ty_arr8_uint32 (.agg (Array.replicate 8 (.int .u32 0))) fun b8 =>
    C.st 8 (Addr.mk b8 0 none) (.agg v37) <|
    C.loop (TL [(.int .i64)]) (embL [(.int .i64)]) [(.int .i64 0)] fun s14 ct14 => C.any fun _ =>
    cond (decide (s14 < 12)) (
      C.loop (TL [(.int .i64)]) (embL [(.int .i64)]) [(.int .i64 0)] fun s15 ct15 => C.any fun _ =>
      cond (decide (s15 < 8)) (
        C.draw <|
        C.ix (some (Addr.mk b8 0 none)) 8 1 s15 fun p47 =>
        C.ld (.int .u32) 1 p47 fun v48 =>
        C.ix (some (Addr.mk b5 0 none)) 8 1 (Int.tmod (IntKind.wrap .i64 (s15 + (IntKind.wrap .i64 (3 * s14)))) 8) fun p54 =>
        C.ld (.int .u32) 1 p54 fun v55 =>
        C.draw <|
        C.callQ n_spec_l01Turn [(.int .u32 (IntKind.wrap .u32 ((IntKind.wrap .u32 (v48 + v55)) + (IntKind.wrap .u32 (2654435769 * (IntKind.wrap .u32 ((IntKind.wrap .i64 ((IntKind.wrap .i64 ((IntKind.wrap .i64 (8 * s14)) + s15)) + 1))))))))), (.int .u64 7)] [(.int .u32)] fun r66 =>
        C.ix (some (Addr.mk b8 0 none)) 8 1 (Int.tmod (IntKind.wrap .i64 (s15 + 1)) 8) fun p70 =>
        C.ld (.int .u32) 1 p70 fun v71 =>
        C.ix (some (Addr.mk b8 0 none)) 8 1 (Int.tmod (IntKind.wrap .i64 (s15 + 5)) 8) fun p78 =>
        C.ld (.int .u32) 1 p78 fun v79 =>
        C.call n_spec_l01Turn [(.int .u32 v79), (.int .u64 13)] [(.int .u32)] fun r80 =>
        C.ix (some (Addr.mk b8 0 none)) 8 1 s15 fun p82 =>
        C.st 1 p82 (.int .u32 (IntKind.wrap .u32 ((bitsI .xor .u32 r66 v71) + r80))) <|
        ct15 [(.int .i64 (IntKind.wrap .i64 (s15 + 1)))]
      ) (
        ct14 [(.int .i64 (IntKind.wrap .i64 (s14 + 1)))]
      )
    ) (
      C.loop (TL [(.int .i64)]) (embL [(.int .i64)]) [(.int .i64 0)] fun s27 ct27 => C.any fun _ =>
      cond (decide (s27 < 8)) (
        C.draw <|
        C.ix (some (Addr.mk b8 0 none)) 8 1 s27 fun p88 =>
        C.ld (.int .u32) 1 p88 fun v89 =>
        C.ix (some (Addr.mk b2 0 none)) 8 1 s27 fun p91 =>
        C.ld (.int .u32) 1 p91 fun v92 =>
        C.ix (some (Addr.mk b8 0 none)) 8 1 s27 fun p94 =>
        C.st 1 p94 (.int .u32 (bitsI .xor .u32 v89 v92)) <|
        ct27 [(.int .i64 (IntKind.wrap .i64 (s27 + 1)))]
      ) (
        C.ld .agg 8 (Addr.mk b8 0 none) fun v95 =>
        C.st 8 (Addr.mk b4 0 none) (.agg v95) <|
        C.ld .agg 8 (Addr.mk b4 0 none) fun z34 =>
        C.ret (.agg z34)
      )
    )
  )
theorem spec_l01Mix_eq (C : Comb) (x0 : Array Value) (x1 : Array Value) : fT C Tryz.prog { loop := [(3, [(6, (.int .i64))]), (6, [(7, (.int .i64))]), (11, [(9, (.int .i64))]), (14, [(10, (.int .i64))]), (20, [(13, (.int .i64))])], join := [], anyOrder := [8, 22], pure := [] } n_spec_l01Mix [(.agg x0), (.agg x1)] = spec_l01Mix C x0 x1 := by kernel_rfl
theorem spec_l01Mix_calls {R : Value → World → Prop} {w : World} (x0 : Array Value) (x1 : Array Value) (h : (spec_l01Mix (real Tryz.prog R) x0 x1 : World → Prop) w) :
    Calls Tryz.prog n_spec_l01Mix [(.agg x0), (.agg x1)].toArray w fun e w' => ∃ v, e = .returned v ∧ R v w' := fT_sound mixed { loop := [(3, [(6, (.int .i64))]), (6, [(7, (.int .i64))]), (11, [(9, (.int .i64))]), (14, [(10, (.int .i64))]), (20, [(13, (.int .i64))])], join := [], anyOrder := [8, 22], pure := [] } (by rw [spec_l01Mix_eq]; exact h)

/-- spec.l01Block (194) -/
def spec_l01Block (C : Comb) (x0 : Sl) (x1 : Int) : C.St :=
  C.new ty_arr32_uint8 (.agg (Array.replicate 32 (.int .u8 0))) fun b4 =>
  C.new ty_arr32_uint8 (.agg (Array.replicate 32 (.int .u8 0))) fun b5 =>
  C.st 32 (Addr.mk b5 0 none) (.agg (Array.replicate 32 (.int .u8 0))) <|
  C.loop (TL [(.int .i64)]) (embL [(.int .i64)]) [(.int .i64 0)] fun s3 ct3 => C.any fun _ =>
  cond (decide (s3 < 32)) (
    C.ix x0.a x0.n 1 (IntKind.wrap .i64 (x1 + s3)) fun p17 =>
    C.ld (.int .u8) 1 p17 fun v18 =>
    C.ix (some (Addr.mk b5 0 none)) 32 1 s3 fun p19 =>
    C.st 1 p19 (.int .u8 v18) <|
    ct3 [(.int .i64 (IntKind.wrap .i64 (s3 + 1)))]
  ) (
    C.ld .agg 32 (Addr.mk b5 0 none) fun v20 =>
    C.st 32 (Addr.mk b4 0 none) (.agg v20) <|
    C.ld .agg 32 (Addr.mk b4 0 none) fun z8 =>
    C.ret (.agg z8)
  )
theorem spec_l01Block_eq (C : Comb) (x0 : Sl) (x1 : Int) : fT C Tryz.prog { loop := [(3, [(6, (.int .i64))])], join := [], anyOrder := [], pure := [] } n_spec_l01Block [(.slice x0.a x0.n x0.c), (.int .i64 x1)] = spec_l01Block C x0 x1 := by kernel_rfl
theorem spec_l01Block_calls {R : Value → World → Prop} {w : World} (x0 : Sl) (x1 : Int) (h : (spec_l01Block (real Tryz.prog R) x0 x1 : World → Prop) w) :
    Calls Tryz.prog n_spec_l01Block [(.slice x0.a x0.n x0.c), (.int .i64 x1)].toArray w fun e w' => ∃ v, e = .returned v ∧ R v w' := fT_sound mixed { loop := [(3, [(6, (.int .i64))])], join := [], anyOrder := [], pure := [] } (by rw [spec_l01Block_eq]; exact h)

/-- cmp.Compare[byte] (197) -/
def cmp_Compare_byte (C : Comb) (x0 : Int) (x1 : Int) : C.St :=
  C.call n_cmp_isNaN_byte [(.int .u8 x0)] [.bool] fun r8 =>
  C.call n_cmp_isNaN_byte [(.int .u8 x1)] [.bool] fun r10 =>
  cond r8 (
    cond r10 (
      C.ret (.int .i64 0)
    ) (
      C.ret (.int .i64 (-1))
    )
  ) (
    cond r10 (
      C.ret (.int .i64 1)
    ) (
      cond (decide (x0 < x1)) (
        C.ret (.int .i64 (-1))
      ) (
        cond (decide (x0 > x1)) (
          C.ret (.int .i64 1)
        ) (
          C.ret (.int .i64 0)
        )
      )
    )
  )
theorem cmp_Compare_byte_eq (C : Comb) (x0 : Int) (x1 : Int) : fT C Tryz.prog { loop := [], join := [], anyOrder := [], pure := [] } n_cmp_Compare_byte [(.int .u8 x0), (.int .u8 x1)] = cmp_Compare_byte C x0 x1 := by kernel_rfl
theorem cmp_Compare_byte_calls {R : Value → World → Prop} {w : World} (x0 : Int) (x1 : Int) (h : (cmp_Compare_byte (real Tryz.prog R) x0 x1 : World → Prop) w) :
    Calls Tryz.prog n_cmp_Compare_byte [(.int .u8 x0), (.int .u8 x1)].toArray w fun e w' => ∃ v, e = .returned v ∧ R v w' := fT_sound mixed { loop := [], join := [], anyOrder := [], pure := [] } (by rw [cmp_Compare_byte_eq]; exact h)

/-- impl.littleNumber (198) -/
def impl_littleNumber (C : Comb) (x0 : Sl) : C.St :=
  C.loop (TL [(.int .u64), (.int .i64)]) (embL [(.int .u64), (.int .i64)]) [(.int .u64 0), (.int .i64 0)] fun s1 ct1 => C.any fun _ =>
  cond (decide (s1.2 < (x0.n : Int))) (
    C.ix x0.a x0.n 1 s1.2 fun p11 =>
    C.ld (.int .u8) 1 p11 fun v12 =>
    C.pur (eqB .shl ty_uint64 (.tmp 15) (.tmp 17) (.int .u64 (IntKind.wrap .u64 (v12))) (.int .i64 (IntKind.wrap .i64 (8 * s1.2)))) (.int .u64) fun y18 =>
    ct1 [(.int .u64 (bitsI .or .u64 s1.1 y18)), (.int .i64 (IntKind.wrap .i64 (s1.2 + 1)))]
  ) (
    C.ret (.int .u64 s1.1)
  )
theorem impl_littleNumber_eq (C : Comb) (x0 : Sl) : fT C Tryz.prog { loop := [(3, [(3, (.int .u64)), (8, (.int .i64))])], join := [], anyOrder := [], pure := [] } n_impl_littleNumber [(.slice x0.a x0.n x0.c)] = impl_littleNumber C x0 := by kernel_rfl
theorem impl_littleNumber_calls {R : Value → World → Prop} {w : World} (x0 : Sl) (h : (impl_littleNumber (real Tryz.prog R) x0 : World → Prop) w) :
    Calls Tryz.prog n_impl_littleNumber [(.slice x0.a x0.n x0.c)].toArray w fun e w' => ∃ v, e = .returned v ∧ R v w' := fT_sound mixed { loop := [(3, [(3, (.int .u64)), (8, (.int .i64))])], join := [], anyOrder := [], pure := [] } (by rw [impl_littleNumber_eq]; exact h)

/-- math/bits.RotateLeft32 (199) -/
def math_bits_RotateLeft32 (C : Comb) (x0 : Int) (x1 : Int) : C.St :=
  C.pur (eqB .shl ty_uint32 (.tmp 9) (.tmp 10) (.int .u32 x0) (.int .u64 (bitsI .and .u64 (IntKind.wrap .u64 (x1)) 31))) (.int .u32) fun y11 =>
  C.pur (eqB .shr ty_uint32 (.tmp 12) (.tmp 14) (.int .u32 x0) (.int .u64 (IntKind.wrap .u64 (32 - (bitsI .and .u64 (IntKind.wrap .u64 (x1)) 31))))) (.int .u32) fun y15 =>
  C.ret (.int .u32 (bitsI .or .u32 y11 y15))
theorem math_bits_RotateLeft32_eq (C : Comb) (x0 : Int) (x1 : Int) : fT C Tryz.prog { loop := [], join := [], anyOrder := [], pure := [] } n_math_bits_RotateLeft32 [(.int .u32 x0), (.int .i64 x1)] = math_bits_RotateLeft32 C x0 x1 := by kernel_rfl
theorem math_bits_RotateLeft32_calls {R : Value → World → Prop} {w : World} (x0 : Int) (x1 : Int) (h : (math_bits_RotateLeft32 (real Tryz.prog R) x0 x1 : World → Prop) w) :
    Calls Tryz.prog n_math_bits_RotateLeft32 [(.int .u32 x0), (.int .i64 x1)].toArray w fun e w' => ∃ v, e = .returned v ∧ R v w' := fT_sound mixed { loop := [], join := [], anyOrder := [], pure := [] } (by rw [math_bits_RotateLeft32_eq]; exact h)

/-- slices.rotateLeft[impl.Key] (200) -/
def slices_rotateLeft_impl_Key (C : Comb) (x0 : Sl) (x1 : Int) : C.St :=
  C.sl x0.a x0.n x0.c 32 none (some x1) none fun y6 =>
  C.call n_slices_Reverse_sl_impl_Key_impl_Key [(.slice y6.a y6.n y6.c)] [] fun r7 =>
  C.sl x0.a x0.n x0.c 32 (some x1) none none fun y10 =>
  C.call n_slices_Reverse_sl_impl_Key_impl_Key [(.slice y10.a y10.n y10.c)] [] fun r11 =>
  C.call n_slices_Reverse_sl_impl_Key_impl_Key [(.slice x0.a x0.n x0.c)] [] fun r13 =>
  C.ret (.tuple #[])
theorem slices_rotateLeft_impl_Key_eq (C : Comb) (x0 : Sl) (x1 : Int) : fT C Tryz.prog { loop := [], join := [], anyOrder := [], pure := [] } n_slices_rotateLeft_impl_Key [(.slice x0.a x0.n x0.c), (.int .i64 x1)] = slices_rotateLeft_impl_Key C x0 x1 := by kernel_rfl
theorem slices_rotateLeft_impl_Key_calls {R : Value → World → Prop} {w : World} (x0 : Sl) (x1 : Int) (h : (slices_rotateLeft_impl_Key (real Tryz.prog R) x0 x1 : World → Prop) w) :
    Calls Tryz.prog n_slices_rotateLeft_impl_Key [(.slice x0.a x0.n x0.c), (.int .i64 x1)].toArray w fun e w' => ∃ v, e = .returned v ∧ R v w' := fT_sound mixed { loop := [], join := [], anyOrder := [], pure := [] } (by rw [slices_rotateLeft_impl_Key_eq]; exact h)

/-- slices.rotateLeft[impl.Blob] (201) -/
def slices_rotateLeft_impl_Blob (C : Comb) (x0 : Sl) (x1 : Int) : C.St :=
  C.sl x0.a x0.n x0.c 2 none (some x1) none fun y6 =>
  C.call n_slices_Reverse_sl_impl_Blob_impl_Blob [(.slice y6.a y6.n y6.c)] [] fun r7 =>
  C.sl x0.a x0.n x0.c 2 (some x1) none none fun y10 =>
  C.call n_slices_Reverse_sl_impl_Blob_impl_Blob [(.slice y10.a y10.n y10.c)] [] fun r11 =>
  C.call n_slices_Reverse_sl_impl_Blob_impl_Blob [(.slice x0.a x0.n x0.c)] [] fun r13 =>
  C.ret (.tuple #[])
theorem slices_rotateLeft_impl_Blob_eq (C : Comb) (x0 : Sl) (x1 : Int) : fT C Tryz.prog { loop := [], join := [], anyOrder := [], pure := [] } n_slices_rotateLeft_impl_Blob [(.slice x0.a x0.n x0.c), (.int .i64 x1)] = slices_rotateLeft_impl_Blob C x0 x1 := by kernel_rfl
theorem slices_rotateLeft_impl_Blob_calls {R : Value → World → Prop} {w : World} (x0 : Sl) (x1 : Int) (h : (slices_rotateLeft_impl_Blob (real Tryz.prog R) x0 x1 : World → Prop) w) :
    Calls Tryz.prog n_slices_rotateLeft_impl_Blob [(.slice x0.a x0.n x0.c), (.int .i64 x1)].toArray w fun e w' => ∃ v, e = .returned v ∧ R v w' := fT_sound mixed { loop := [], join := [], anyOrder := [], pure := [] } (by rw [slices_rotateLeft_impl_Blob_eq]; exact h)

/-- spec.l01Turn (202) -/
def spec_l01Turn (C : Comb) (x0 : Int) (x1 : Int) : C.St :=
  C.pur (eqB .shl ty_uint32 (.tmp 5) (.tmp 6) (.int .u32 x0) (.int .u64 x1)) (.int .u32) fun y7 =>
  C.pur (eqB .shr ty_uint32 (.tmp 8) (.tmp 10) (.int .u32 x0) (.int .u64 (IntKind.wrap .u64 (32 - x1)))) (.int .u32) fun y11 =>
  C.ret (.int .u32 (bitsI .or .u32 y7 y11))
theorem spec_l01Turn_eq (C : Comb) (x0 : Int) (x1 : Int) : fT C Tryz.prog { loop := [], join := [], anyOrder := [], pure := [] } n_spec_l01Turn [(.int .u32 x0), (.int .u64 x1)] = spec_l01Turn C x0 x1 := by kernel_rfl
theorem spec_l01Turn_calls {R : Value → World → Prop} {w : World} (x0 : Int) (x1 : Int) (h : (spec_l01Turn (real Tryz.prog R) x0 x1 : World → Prop) w) :
    Calls Tryz.prog n_spec_l01Turn [(.int .u32 x0), (.int .u64 x1)].toArray w fun e w' => ∃ v, e = .returned v ∧ R v w' := fT_sound mixed { loop := [], join := [], anyOrder := [], pure := [] } (by rw [spec_l01Turn_eq]; exact h)

/-- cmp.isNaN[byte] (212) -/
def cmp_isNaN_byte (C : Comb) (x0 : Int) : C.St :=
  C.ret (.bool (x0 != x0))
theorem cmp_isNaN_byte_eq (C : Comb) (x0 : Int) : fT C Tryz.prog { loop := [], join := [], anyOrder := [], pure := [] } n_cmp_isNaN_byte [(.int .u8 x0)] = cmp_isNaN_byte C x0 := by kernel_rfl
theorem cmp_isNaN_byte_calls {R : Value → World → Prop} {w : World} (x0 : Int) (h : (cmp_isNaN_byte (real Tryz.prog R) x0 : World → Prop) w) :
    Calls Tryz.prog n_cmp_isNaN_byte [(.int .u8 x0)].toArray w fun e w' => ∃ v, e = .returned v ∧ R v w' := fT_sound mixed { loop := [], join := [], anyOrder := [], pure := [] } (by rw [cmp_isNaN_byte_eq]; exact h)

/-- slices.Reverse[[]impl.Blob,impl.Blob] (213) -/
def slices_Reverse_sl_impl_Blob_impl_Blob (C : Comb) (x0 : Sl) : C.St :=
  C.loop (TL [(.int .i64), (.int .i64)]) (embL [(.int .i64), (.int .i64)]) [(.int .i64 0), (.int .i64 (IntKind.wrap .i64 ((x0.n : Int) - 1)))] fun s1 ct1 => C.any fun _ =>
  cond (decide (s1.1 < s1.2)) (
    C.draw <|
    C.ix x0.a x0.n 2 s1.2 fun p20 =>
    C.ld .agg 2 p20 fun v21 =>
    C.ix x0.a x0.n 2 s1.1 fun p24 =>
    C.ld .agg 2 p24 fun v25 =>
    C.ix x0.a x0.n 2 s1.1 fun p26 =>
    C.st 2 p26 (.agg v21) <|
    C.ix x0.a x0.n 2 s1.2 fun p27 =>
    C.st 2 p27 (.agg v25) <|
    ct1 [(.int .i64 (IntKind.wrap .i64 (s1.1 + 1))), (.int .i64 (IntKind.wrap .i64 (s1.2 - 1)))]
  ) (
    C.ret (.tuple #[])
  )
theorem slices_Reverse_sl_impl_Blob_impl_Blob_eq (C : Comb) (x0 : Sl) : fT C Tryz.prog { loop := [(1, [(2, (.int .i64)), (3, (.int .i64))])], join := [], anyOrder := [3], pure := [] } n_slices_Reverse_sl_impl_Blob_impl_Blob [(.slice x0.a x0.n x0.c)] = slices_Reverse_sl_impl_Blob_impl_Blob C x0 := by kernel_rfl
theorem slices_Reverse_sl_impl_Blob_impl_Blob_calls {R : Value → World → Prop} {w : World} (x0 : Sl) (h : (slices_Reverse_sl_impl_Blob_impl_Blob (real Tryz.prog R) x0 : World → Prop) w) :
    Calls Tryz.prog n_slices_Reverse_sl_impl_Blob_impl_Blob [(.slice x0.a x0.n x0.c)].toArray w fun e w' => ∃ v, e = .returned v ∧ R v w' := fT_sound mixed { loop := [(1, [(2, (.int .i64)), (3, (.int .i64))])], join := [], anyOrder := [3], pure := [] } (by rw [slices_Reverse_sl_impl_Blob_impl_Blob_eq]; exact h)
end Go.Proofs.YtffedfdhhglmkaaGreat
