/- A blob is put into the reference's store. Printed by a program of this claim's author (s4.py). -/
import Derived.Test.YtkifkdkjljcclaaGreatPkLTor18
namespace Go.Proofs.YtkifkdkjljcclaaGreat
open Go.Sx Go.RowKit

theorem SpecO.hdr {b : Nat} {ks : List (List Int)} {bs : List BR} {L : List Blk} (h : SpecO b ks bs L) : ∃ sk sb Lb Lk, L = (b, #[.slice sb.a sb.n sb.c, .slice sk.a sk.n sk.c], ty_spec_l05Store) :: (Lb ++ Lk) ∧ OwnS ty_impl_Key 32 sk (ks.flatMap u8s) Lk ∧ OwnS ty_impl_Blob 2 sb (bs.flatMap BR.cells) Lb := by
  obtain ⟨sk, sb, Lk, Lb, h1, h2, h3⟩ := h
  exact ⟨sk, sb, Lb, Lk, h1, h2, h3⟩

theorem c_spec_put {w0 w : World} {ls L : List Blk} {b : Nat} {B : List PB} {bs : List BR} {c : BR} (hA : At w0 w (L ++ ls)) (hO : SpecO b (keysOf B) bs L) (hpb : bs.map BR.pb = B) (hbs : ∀ x ∈ bs, ∀ w' : World, At w0 w' ls → x.Ok w') (hc : ∀ w' : World, At w0 w' ls → c.Ok w') (hcd : c.data.length ≤ 35184372088832) (hgd : good B) (hbd : ∀ b ∈ B, b.data.length ≤ 1073741824) :
    Calls Tryz.prog n_ptr_spec_l05Store_put [.pointer (some ⟨b, 0, none⟩), .agg c.cells.toArray].toArray w fun e w' => ∃ v, e = .returned v ∧ ∃ (bs' : List BR) (L' : List Blk), v = .tuple #[.agg (u8s (putAns B c.pb).2.1).toArray, .int .i64 (putAns B c.pb).2.2] ∧ At w0 w' (L' ++ ls) ∧
      SpecO b (keysOf (putAns B c.pb).1) bs' L' ∧ bs'.map BR.pb = (putAns B c.pb).1 ∧ ∀ x ∈ bs', x = c ∨ x ∈ bs := ptr_spec_l05Store_put_calls _ _ (by
  unfold ptr_spec_l05Store_put
  have hasc := hgd.1
  have hmax := hgd.2.1
  have hkl : c.pb.key.length = 32 := c.pb.key_ok.1
  have hko : keyOk c.pb.key := c.pb.key_ok
  have hbl : bs.length = B.length := by rw [← hpb]; simp
  have hkB : (keysOf B).length = B.length := keysOf_len B
  have hple : posK (keysOf B) c.pb.key ≤ B.length := by have := posK_le (keysOf B) c.pb.key; omega
  refine r_new hA fun b3 w1 h => ?_
  refine r_new h fun b4 w2 h => ?_
  refine r_call h (c_l05Key (b := c) ⟨fun n => ldOk_own h 1 rfl 0 rfl (by simp [Sh.emb]), fun n => ldOk_own h 1 rfl 1 rfl (by simp [Sh.emb]), hc _ h.tail.tail.right⟩ hcd) fun r w3 h _ hr => ?_
  subst hr
  refine r_new h fun b6 w4 h => ?_
  refine r_stA h 0 rfl rfl (by simp [hkl]) (by simp [Value.cells]) (by simpa using u8s_one) fun w5 h => ?_
  have h : At w0 w5 ([(b6, (u8s c.pb.key).toArray, ty_impl_Key), (b4, Array.replicate 32 (.int .u8 0), ty_impl_Key), (b3, c.cells.toArray, ty_impl_Blob)] ++ (L ++ ls)) := h
  obtain ⟨sk, sb, Lb, Lk, hLeq, hOk, hOb⟩ := hO.hdr
  have hskn : sk.n = B.length := by have := hOk.1; rw [flatMap_length (z := 32) (fun x hx => by rw [u8s_len]; exact (keysOf_ok B x hx).1)] at this; omega
  have hsbn : sb.n = B.length := by have := hOb.1; rw [flatMap_length (z := 2) (fun x _ => cells_len x)] at this; omega
  have e1 : ∀ {w' : World}, At w0 w' ([(b6, (u8s c.pb.key).toArray, ty_impl_Key), (b4, Array.replicate 32 (.int .u8 0), ty_impl_Key), (b3, c.cells.toArray, ty_impl_Blob)] ++ (L ++ ls)) → ∀ n, ldOk w' n ((⟨b, 0, none⟩ : Addr).add 1) .slice sk := fun h n => by
    rw [hLeq] at h
    exact ldOk_own h 3 rfl 1 rfl (by simp [Sh.emb])
  have e2 : ∀ {w' : World}, At w0 w' ([(b6, (u8s c.pb.key).toArray, ty_impl_Key), (b4, Array.replicate 32 (.int .u8 0), ty_impl_Key), (b3, c.cells.toArray, ty_impl_Blob)] ++ (L ++ ls)) → ∀ n, ldOk w' n ((⟨b, 0, none⟩ : Addr).add 0) .slice sb := fun h n => by
    rw [hLeq] at h
    exact ldOk_own h 3 rfl 0 rfl (by simp [Sh.emb])
  have subK : Lk.Sublist ([(b6, (u8s c.pb.key).toArray, ty_impl_Key), (b4, Array.replicate 32 (.int .u8 0), ty_impl_Key), (b3, c.cells.toArray, ty_impl_Blob)] ++ (L ++ ls)) := by
    rw [hLeq]
    exact (((List.sublist_append_right _ _).trans (List.sublist_cons_self _ _)).trans (List.sublist_append_left _ _)).trans (List.sublist_append_right _ _)
  have hK : ∀ {w' : World}, At w0 w' ([(b6, (u8s c.pb.key).toArray, ty_impl_Key), (b4, Array.replicate 32 (.int .u8 0), ty_impl_Key), (b3, c.cells.toArray, ty_impl_Blob)] ++ (L ++ ls)) → KsR w' sk (keysOf B) := fun h => ownS_ks hOk h subK (keysOf_ok _)
  have subB : Lb.Sublist ([(b6, (u8s c.pb.key).toArray, ty_impl_Key), (b4, Array.replicate 32 (.int .u8 0), ty_impl_Key), (b3, c.cells.toArray, ty_impl_Blob)] ++ (L ++ ls)) := by
    rw [hLeq]
    exact (((List.sublist_append_left _ _).trans (List.sublist_cons_self _ _)).trans (List.sublist_append_left _ _)).trans (List.sublist_append_right _ _)
  have hB : ∀ {w' : World}, At w0 w' ([(b6, (u8s c.pb.key).toArray, ty_impl_Key), (b4, Array.replicate 32 (.int .u8 0), ty_impl_Key), (b3, c.cells.toArray, ty_impl_Blob)] ++ (L ++ ls)) → BsR w' sb bs := fun h => ⟨hOb.of h subB (fun b _ => cells_len b) (by omega), fun b hb => hbs b hb _ h.right.right⟩
  refine r_join (σ := Int) (fun s w' => s = (posK (keysOf B) c.pb.key : Int) ∧ At w0 w' ([(b6, (u8s c.pb.key).toArray, ty_impl_Key), (b4, Array.replicate 32 (.int .u8 0), ty_impl_Key), (b3, c.cells.toArray, ty_impl_Blob)] ++ (L ++ ls))) (fun s w6 hJ => ?_) ?_
  · obtain ⟨rfl, h⟩ := hJ
    refine r_any fun _ => ?_
    refine r_join (σ := Bool) (fun s w' => s = decide (c.pb.key ∈ keysOf B) ∧ At w0 w' ([(b6, (u8s c.pb.key).toArray, ty_impl_Key), (b4, Array.replicate 32 (.int .u8 0), ty_impl_Key), (b3, c.cells.toArray, ty_impl_Blob)] ++ (L ++ ls))) (fun s w7 hJ => ?_) ?_
    · obtain ⟨rfl, h⟩ := hJ
      refine r_any fun _ => ?_
      by_cases hm : c.pb.key ∈ keysOf B
      · refine r_true (decide_eq_true hm) ?_
        have hp := (posK_mem hasc).1 hm
        have hplt := (List.getElem?_eq_some_iff.1 hp).1
        refine r_ldN sb (e2 h 1) ?_
        obtain ⟨x, q, hx, hxm, hq, hxa, _⟩ := (hB h).bat (i := posK (keysOf B) c.pb.key) (by omega)
        refine r_ix q hq (by omega) (by omega) ?_
        refine r_call h (c_l05SameBlob (b := x) (c := c) (by simpa only [Int.toNat_natCast] using hxa) ⟨fun n => ldOk_own h 2 rfl 0 rfl (by simp [Sh.emb]), fun n => ldOk_own h 2 rfl 1 rfl (by simp [Sh.emb]), hc _ h.right.right⟩ (hbd x.pb (by rw [← hpb]; exact List.mem_map_of_mem hxm))) fun r w8 h _ hr => ?_
        subst hr
        by_cases he : x.pb = c.pb
        · have hans : putAns B c.pb = (B, c.pb.key, 0) := by unfold putAns; rw [if_pos hm, if_pos (by rw [pb_get hpb hx, he])]
          rw [hans]
          refine r_false (by simp [he]) ?_
          refine r_ldA h 0 rfl rfl (by simp [hkl]) ?_
          refine r_stA h 1 rfl rfl (by simp [hkl]) (by simp) (by simpa using u8s_one) fun w8 h8 => ?_
          refine r_ldA h8 1 rfl rfl (by simp [hkl]) ?_
          exact r_retR ⟨bs, L, rfl, At.right (A := [_, _, _]) h8, hO, hpb, fun x hx => .inr hx⟩
        · have hans : putAns B c.pb = (B, zero32, 8) := by unfold putAns; rw [if_pos hm, if_neg (by rw [pb_get hpb hx]; exact fun hh => he (Option.some.inj hh))]
          rw [hans]
          refine r_true (by simp [he]) ?_
          refine r_stA h 1 rfl rfl (by simp) (by simp) (by simp [oneC]) fun w8 h8 => ?_
          refine r_ldA h8 1 rfl rfl (by simp) ?_
          exact r_retR ⟨bs, L, rfl, At.right (A := [_, _, _]) h8, hO, hpb, fun x hx => .inr hx⟩
      · refine r_false (decide_eq_false hm) ?_
        refine r_ldN sk (e1 h 1) ?_
        refine r_if ((sk.n : Int) ≥ 128) rfl (fun hfull => ?_) (fun hroom => ?_)
        · have hans : putAns B c.pb = (B, zero32, 3) := by unfold putAns; rw [if_neg hm, if_pos (by omega)]
          rw [hans]
          refine r_stA h 1 rfl rfl (by simp) (by simp) (by simp [oneC]) fun w8 h8 => ?_
          refine r_ldA h8 1 rfl rfl (by simp) ?_
          exact r_retR ⟨bs, L, rfl, At.right (A := [_, _, _]) h8, hO, hpb, fun x hx => .inr hx⟩
        · have hans : putAns B c.pb = (insAt (posK (keysOf B) c.pb.key) c.pb B, c.pb.key, 0) := by unfold putAns; rw [if_neg hm, if_neg (by omega)]
          rw [hans]
          have h : At w0 w7 ([(b6, (u8s c.pb.key).toArray, ty_impl_Key), (b4, Array.replicate 32 (.int .u8 0), ty_impl_Key), (b3, c.cells.toArray, ty_impl_Blob), (b, #[.slice sb.a sb.n sb.c, .slice sk.a sk.n sk.c], ty_spec_l05Store)] ++ (Lb ++ (Lk ++ ls))) := by rw [hLeq] at h; simpa [List.append_assoc] using h
          have hxk : ((keysOf B).flatMap u8s).length = B.length * 32 := by rw [hOk.1, hskn]
          have hxb : (bs.flatMap BR.cells).length = B.length * 2 := by rw [hOb.1, hsbn]
          have sB : ∀ (M ls : List Blk), Lb.Sublist (M ++ (Lb ++ ls)) := fun M ls => (List.sublist_append_left _ _).trans (List.sublist_append_right _ _)
          have capb := hOb.cap
          have capk := hOk.cap
          refine r_join (σ := Sl) (fun s w' => ∃ Ly, OwnS ty_impl_Blob 2 s (c.cells ++ (bs.flatMap BR.cells).drop (posK (keysOf B) c.pb.key * 2)) Ly ∧ s.n = 1 + (B.length - posK (keysOf B) c.pb.key) ∧ At w0 w' ([(b6, (u8s c.pb.key).toArray, ty_impl_Key), (b4, Array.replicate 32 (.int .u8 0), ty_impl_Key), (b3, c.cells.toArray, ty_impl_Blob), (b, #[.slice sb.a sb.n sb.c, .slice sk.a sk.n sk.c], ty_spec_l05Store)] ++ (Ly ++ (Lb ++ (Lk ++ ls))))) (fun s41 w8 hJ => ?_) ?_
          · obtain ⟨Ly, hOy, hyn, h⟩ := hJ
            refine r_any fun _ => ?_
            refine r_bs0 T_sl_Blob h fun y0 w9 hy0 hn0 => ?_
            have h := hy0.at_
            refine r_ld h 3 (o := 0) rfl (by simp [add_zero]) sb (by simp [Sh.emb]) rfl ?_
            refine r_slPre (posK (keysOf B) c.pb.key) rfl rfl (by omega) ?_
            refine r_append T_sl_Blob hy0 (y := ⟨sb.a, posK (keysOf B) c.pb.key, sb.c⟩) ((hOb.shrink _ (by omega)).sl h (((List.sublist_append_left _ _).trans (List.sublist_append_right _ _)).trans (List.sublist_append_right _ _))) (fun u hu => flatCells_one _ u (List.mem_of_mem_take hu)) (by dsimp only; omega) (by dsimp only; omega) fun y1 w10 hy1 hn1 => ?_
            dsimp only at hn1
            rw [List.nil_append] at hy1
            refine r_append T_sl_Blob hy1 (hOy.sl hy1.at_ ((List.sublist_append_left _ _).trans (List.sublist_append_right _ _))) (fun u hu => by
              rcases List.mem_append.1 hu with hu | hu
              · exact cells_one c u hu
              · exact flatCells_one _ u (List.mem_of_mem_drop hu)) (by omega) (by omega) fun y2 w11 hy2 hn2 => ?_
            obtain ⟨Lb', hOb', h⟩ := hy2.split
            rw [← List.append_assoc, flatMap_insAt (z := 2) (fun x _ => cells_len x)] at hOb'
            have h := At.rot h
            refine r_st h 3 (o := 0) rfl (by simp [add_zero]) (by simp) rfl fun w12 h => ?_
            have h : At w0 w12 ([(b6, (u8s c.pb.key).toArray, ty_impl_Key), (b4, Array.replicate 32 (.int .u8 0), ty_impl_Key), (b3, c.cells.toArray, ty_impl_Blob), (b, #[.slice y2.a y2.n y2.c, .slice sk.a sk.n sk.c], ty_spec_l05Store)] ++ (Lb' ++ (Ly ++ (Lb ++ (Lk ++ ls))))) := h
            have h := h.dr2.dr2
            have h : At w0 w12 ([(b6, (u8s c.pb.key).toArray, ty_impl_Key), (b4, Array.replicate 32 (.int .u8 0), ty_impl_Key), (b3, c.cells.toArray, ty_impl_Blob), (b, #[.slice y2.a y2.n y2.c, .slice sk.a sk.n sk.c], ty_spec_l05Store)] ++ (Lb' ++ (Lk ++ ls))) := h
            refine r_join (σ := Sl) (fun s w' => ∃ Lz, OwnS ty_impl_Key 32 s (u8s c.pb.key ++ ((keysOf B).flatMap u8s).drop (posK (keysOf B) c.pb.key * 32)) Lz ∧ s.n = 1 + (B.length - posK (keysOf B) c.pb.key) ∧ At w0 w' ([(b6, (u8s c.pb.key).toArray, ty_impl_Key), (b4, Array.replicate 32 (.int .u8 0), ty_impl_Key), (b3, c.cells.toArray, ty_impl_Blob), (b, #[.slice y2.a y2.n y2.c, .slice sk.a sk.n sk.c], ty_spec_l05Store)] ++ (Lz ++ (Lb' ++ (Lk ++ ls))))) (fun s52 w13 hJ => ?_) ?_
            · obtain ⟨Lz, hOz, hzn, h⟩ := hJ
              refine r_any fun _ => ?_
              refine r_bs0 T_sl_Key h fun y3 w14 hy3 hn3 => ?_
              have h := hy3.at_
              refine r_ld h 3 (o := 1) rfl (add_lit _ _ _) sk (by simp [Sh.emb]) rfl ?_
              refine r_slPre (posK (keysOf B) c.pb.key) rfl rfl (by omega) ?_
              refine r_append T_sl_Key hy3 (y := ⟨sk.a, posK (keysOf B) c.pb.key, sk.c⟩) ((hOk.shrink _ (by omega)).sl h ((((List.sublist_append_left _ _).trans (List.sublist_append_right _ _)).trans (List.sublist_append_right _ _)).trans (List.sublist_append_right _ _))) (fun u hu => flatU8_one _ u (List.mem_of_mem_take hu)) (by dsimp only; omega) (by dsimp only; omega) fun y4 w15 hy4 hn4 => ?_
              dsimp only at hn4
              rw [List.nil_append] at hy4
              refine r_append T_sl_Key hy4 (hOz.sl hy4.at_ ((List.sublist_append_left _ _).trans (List.sublist_append_right _ _))) (fun u hu => by
                rcases List.mem_append.1 hu with hu | hu
                · exact u8s_one u hu
                · exact flatU8_one _ u (List.mem_of_mem_drop hu)) (by omega) (by omega) fun y5 w16 hy5 hn5 => ?_
              obtain ⟨Lk', hOk', h⟩ := hy5.split
              rw [← List.append_assoc, flatMap_insAt (z := 32) (fun x hx => by rw [u8s_len]; exact (keysOf_ok B x hx).1)] at hOk'
              have h := At.rot h
              refine r_st h 3 (o := 1) rfl (add_lit _ _ _) (by simp) rfl fun w17 h => ?_
              refine r_ldA h 0 rfl rfl (by simp [hkl]) ?_
              refine r_stA h 1 rfl rfl (by simp [hkl]) (by simp) (by simpa using u8s_one) fun w18 h => ?_
              refine r_ldA h 1 rfl rfl (by simp [hkl]) ?_
              have ek : keysOf (insAt (posK (keysOf B) c.pb.key) c.pb B) = insAt (posK (keysOf B) c.pb.key) c.pb.key (keysOf B) := by unfold keysOf; rw [insAt_map]
              have h : At w0 w18 ([(b6, (u8s c.pb.key).toArray, ty_impl_Key), (b4, (u8s c.pb.key).toArray, ty_impl_Key), (b3, c.cells.toArray, ty_impl_Blob), (b, #[.slice y2.a y2.n y2.c, .slice y5.a y5.n y5.c], ty_spec_l05Store)] ++ (Lk' ++ (Lz ++ (Lb' ++ (Lk ++ ls))))) := h
              refine r_retR ⟨insAt (posK (keysOf B) c.pb.key) c bs, [(b, #[.slice y2.a y2.n y2.c, .slice y5.a y5.n y5.c], ty_spec_l05Store)] ++ (Lb' ++ Lk'), rfl, ?_, ⟨y5, y2, Lk', Lb', rfl, by rw [ek]; exact hOk', hOb'⟩, by rw [insAt_map, hpb], ?_⟩
              · have h := h.dr2.dr3.pl2.ps1
                have := At.right (A := [_, _, _]) h
                simpa [List.append_assoc] using this
              · exact fun x hx => mem_insAt hx
            · refine r_draw h fun w13 h => ?_
              refine r_ldA h 0 rfl rfl (by simp [hkl]) ?_
              refine r_ld h 3 (o := 1) rfl (add_lit _ _ _) sk (by simp [Sh.emb]) rfl ?_
              refine r_sl (posK (keysOf B) c.pb.key) sk.n rfl rfl (by omega) capk ?_
              refine r_bs1 T_sl_Key h (by simp [Value.cells, hkl]) (by omega) fun y3 w14 hy3 hn3 => ?_
              refine r_chk1 ?_ ?_
              · exact ldOk_own hy3.at_ 3 rfl 1 rfl (by simp [Sh.emb])
              have hsuf := (hOk.sl hy3.at_ (((List.sublist_append_left _ _).trans (List.sublist_append_right _ _)).trans (List.sublist_append_right _ _))).slice (by omega) (posK (keysOf B) c.pb.key) sk.n (by omega) (Nat.le_refl _) capk
              rw [List.take_of_length_le (l := ((keysOf B).flatMap u8s).drop (posK (keysOf B) c.pb.key * 32)) (by rw [List.length_drop, hxk, hskn]; omega)] at hsuf
              refine r_append T_sl_Key hy3 hsuf (fun u hu => flatU8_one _ u (List.mem_of_mem_drop hu)) (by dsimp only; omega) (by dsimp only; omega) fun y4 w15 hy4 hn4 => ?_
              dsimp only at hn4
              obtain ⟨Lz, hOz, h⟩ := hy4.split
              have h := At.rot h
              refine r_chk1 ?_ ?_
              · exact ldOk_own h 3 rfl 1 rfl (by simp [Sh.emb])
              exact ⟨y4, rfl, Lz, by simpa [Value.cells] using hOz, by omega, h⟩
          · refine r_draw h fun w8 h => ?_
            refine r_ldA h 2 rfl rfl rfl ?_
            refine r_ld h 3 (o := 0) rfl (by simp [add_zero]) sb (by simp [Sh.emb]) rfl ?_
            refine r_sl (posK (keysOf B) c.pb.key) sb.n rfl rfl (by omega) capb ?_
            refine r_bs1 T_sl_Blob h (by simp [Value.cells, BR.cells]) (by omega) fun y0 w9 hy0 hn0 => ?_
            refine r_chk1 ?_ ?_
            · simpa [add_zero] using ldOk_own (sh := .slice) hy0.at_ 3 rfl 0 rfl (by simp [Sh.emb])
            have hsuf := (hOb.sl hy0.at_ ((List.sublist_append_left _ _).trans (List.sublist_append_right _ _))).slice (by omega) (posK (keysOf B) c.pb.key) sb.n (by omega) (Nat.le_refl _) capb
            rw [List.take_of_length_le (l := (bs.flatMap BR.cells).drop (posK (keysOf B) c.pb.key * 2)) (by rw [List.length_drop, hxb, hsbn]; omega)] at hsuf
            refine r_append T_sl_Blob hy0 hsuf (fun u hu => flatCells_one _ u (List.mem_of_mem_drop hu)) (by dsimp only; omega) (by dsimp only; omega) fun y1 w10 hy1 hn1 => ?_
            dsimp only at hn1
            obtain ⟨Ly, hOy, h⟩ := hy1.split
            have h := At.rot h
            refine r_chk1 ?_ ?_
            · simpa [add_zero] using ldOk_own (sh := .slice) h 3 rfl 0 rfl (by simp [Sh.emb])
            exact ⟨y1, rfl, Ly, by simpa [Value.cells] using hOy, by omega, h⟩
    · refine r_draw h fun w7 h => ?_
      refine r_ldN sk (e1 h 1) ?_
      refine r_if ((posK (keysOf B) c.pb.key : Int) < (sk.n : Int)) rfl (fun hlt => ?_) (fun hge => ?_)
      · refine r_ldN sk (e1 h 1) ?_
        obtain ⟨x, q, hx, hxm, hq, hxo, hxl⟩ := (hK h).get (i := posK (keysOf B) c.pb.key) (by omega)
        refine r_ix q hq (by omega) (by omega) ?_
        refine r_ldN (u8s x).toArray (by simp only [Int.toNat_natCast]; exact hxl) ?_
        refine r_ldA h 0 rfl rfl (by simp [hkl]) ?_
        refine r_pur _ (fun w' => run_eql_key _ _ hxo.1 hkl w') ?_
        refine ⟨_, rfl, ?_, h⟩
        by_cases he : x = c.pb.key
        · rw [decide_eq_true he, decide_eq_true ((posK_mem hasc).2 (by rw [hx, he]))]
        · rw [decide_eq_false he, decide_eq_false]
          intro hm
          have := (posK_mem hasc).1 hm
          rw [hx] at this
          exact he (Option.some.inj this)
      · refine ⟨false, rfl, ?_, h⟩
        rw [decide_eq_false]
        intro hm
        have := (List.getElem?_eq_some_iff.1 ((posK_mem hasc).1 hm)).1
        omega
  · refine r_loop (σ := Int) (fun i w' => ∃ (j : Nat), i = j ∧ j ≤ posK (keysOf B) c.pb.key ∧ At w0 w' ([(b6, (u8s c.pb.key).toArray, ty_impl_Key), (b4, Array.replicate 32 (.int .u8 0), ty_impl_Key), (b3, c.cells.toArray, ty_impl_Blob)] ++ (L ++ ls))) (fun i _ => (sk.n - i).toNat) 0 rfl ⟨0, rfl, by omega, h⟩ ?_
    rintro i w6 ⟨j, rfl, hj, h⟩
    refine r_any fun _ => ?_
    refine r_draw h fun w7 h => ?_
    refine r_ldN sk (e1 h 1) ?_
    refine r_if ((j : Int) < (sk.n : Int)) rfl (fun hlt => ?_) (fun hge => ?_)
    · obtain ⟨x, q, hx, hxm, hq, hxo, hxl⟩ := (hK h).get (i := j) (by omega)
      refine ⟨?_, ?_⟩
      · refine r_ldN sk (e1 h 1) ?_
        refine r_chk1 (e1 h 1) ?_
        refine r_ix q hq (by omega) (by omega) ?_
        refine ⟨?_, ?_⟩
        · refine r_ldN (u8s x).toArray (by simp only [Int.toNat_natCast]; exact hxl) ?_
          refine r_chk1 (e1 h 1) ?_
          refine r_ldA h 0 rfl rfl (by simp [hkl]) ?_
          refine r_chk1 (e1 h 1) ?_
          refine r_call h (c_l01Compare hxo.1 hkl _) fun r w8 h _ hr => ?_
          subst hr
          refine r_chk1 (e1 h 1) ?_
          refine r_if (cmpL x c.pb.key < 0) rfl (fun hc' => ?_) (fun hc' => ?_)
          · refine ⟨((j + 1 : Nat) : Int), by rw [w64 (by omega) (by omega)]; rfl, ⟨j + 1, rfl, ?_, h⟩, by omega⟩
            have := (posK_lt hasc hx).2 hc'
            omega
          · refine ⟨(j : Int), rfl, ?_, h⟩
            have : ¬ j < posK (keysOf B) c.pb.key := fun hh => hc' ((posK_lt hasc hx).1 hh)
            omega
        · refine r_ldA h 0 rfl rfl (by simp [hkl]) ?_
          refine r_chk1 (e1 h 1) ?_
          refine r_ldN (u8s x).toArray (by simp only [Int.toNat_natCast]; exact hxl) ?_
          refine r_chk1 (e1 h 1) ?_
          refine r_call h (c_l01Compare hxo.1 hkl _) fun r w8 h _ hr => ?_
          subst hr
          refine r_chk1 (e1 h 1) ?_
          refine r_if (cmpL x c.pb.key < 0) rfl (fun hc' => ?_) (fun hc' => ?_)
          · refine ⟨((j + 1 : Nat) : Int), by rw [w64 (by omega) (by omega)]; rfl, ⟨j + 1, rfl, ?_, h⟩, by omega⟩
            have := (posK_lt hasc hx).2 hc'
            omega
          · refine ⟨(j : Int), rfl, ?_, h⟩
            have : ¬ j < posK (keysOf B) c.pb.key := fun hh => hc' ((posK_lt hasc hx).1 hh)
            omega
      · refine r_ldA h 0 rfl rfl (by simp [hkl]) ?_
        refine r_chk1 (e1 h 1) ?_
        refine r_ldN sk (e1 h 1) ?_
        refine r_chk1 (e1 h 1) ?_
        refine r_ix q hq (by omega) (by omega) ?_
        refine r_ldN (u8s x).toArray (by simp only [Int.toNat_natCast]; exact hxl) ?_
        refine r_chk1 (e1 h 1) ?_
        refine r_call h (c_l01Compare hxo.1 hkl _) fun r w8 h _ hr => ?_
        subst hr
        refine r_chk1 (e1 h 1) ?_
        refine r_if (cmpL x c.pb.key < 0) rfl (fun hc' => ?_) (fun hc' => ?_)
        · refine ⟨((j + 1 : Nat) : Int), by rw [w64 (by omega) (by omega)]; rfl, ⟨j + 1, rfl, ?_, h⟩, by omega⟩
          have := (posK_lt hasc hx).2 hc'
          omega
        · refine ⟨(j : Int), rfl, ?_, h⟩
          have : ¬ j < posK (keysOf B) c.pb.key := fun hh => hc' ((posK_lt hasc hx).1 hh)
          omega
    · have hpos : j = posK (keysOf B) c.pb.key := by omega
      have fin : ∃ s' : Int, (embL [Sh.int .i64] s' : List Value) = [Value.int .i64 (j : Int)] ∧ (s' = (posK (keysOf B) c.pb.key : Int) ∧ At w0 w7 ([(b6, (u8s c.pb.key).toArray, ty_impl_Key), (b4, Array.replicate 32 (.int .u8 0), ty_impl_Key), (b3, c.cells.toArray, ty_impl_Blob)] ++ (L ++ ls))) := ⟨(j : Int), rfl, by rw [hpos], h⟩
      refine ⟨?_, ?_⟩
      · refine r_chk1 (e1 h 1) ?_
        refine ⟨?_, ?_⟩
        · exact r_chk1 (e1 h 1) (r_chk1 (e1 h 1) (r_chk1 (e1 h 1) fin))
        · exact r_chk1 (e1 h 1) (r_chk1 (e1 h 1) (r_chk1 (e1 h 1) fin))
      · exact r_chk1 (e1 h 1) (r_chk1 (e1 h 1) (r_chk1 (e1 h 1) (r_chk1 (e1 h 1) fin))))

def madeAns (a : List PB × List Int × Int) : List PB × List Int × Int := if a.2.2 ≠ 0 then ([], zero32, a.2.2) else a

theorem c_l05Made {w0 w : World} {ls L : List Blk} {b : Nat} {B : List PB} {bs : List BR} {k : List Int} {code : Int} (hA : At w0 w (L ++ ls)) (hO : SpecO b (keysOf B) bs L) (hpb : bs.map BR.pb = B) (hbs : ∀ x ∈ bs, ∀ w' : World, At w0 w' ls → x.Ok w') (hk : keyOk k) (hg : good B) :
    Calls Tryz.prog n_spec_l05Made [.pointer (some ⟨b, 0, none⟩), .agg (u8s k).toArray, .int .i64 code].toArray w fun e w' => ∃ v, e = .returned v ∧ ∃ (r : Array Value) (L' : List Blk), v = .tuple #[.agg r, .agg (u8s (madeAns (B, k, code)).2.1).toArray, .int .i64 (madeAns (B, k, code)).2.2] ∧
      At w0 w' (L' ++ ls) ∧ OwnStore r (madeAns (B, k, code)).1 L' ∧ keyOk (madeAns (B, k, code)).2.1 := spec_l05Made_calls _ _ _ (by
  unfold spec_l05Made
  refine r_new hA fun b4 w1 h => ?_
  refine r_new h fun b6 w2 h => ?_
  refine r_new h fun b7 w3 h => ?_
  have h : At w0 w3 ([(b7, Array.replicate 32 (.int .u8 0), ty_impl_Key), (b6, #[.slice none 0 0], ty_impl_Store), (b4, (u8s k).toArray, ty_impl_Key)] ++ (L ++ ls)) := h
  refine r_ne (fun hne => ?_) (fun heq => ?_)
  · have hans : madeAns (B, k, code) = ([], zero32, code) := by unfold madeAns; rw [if_pos hne]
    rw [hans]
    refine r_pur (sh := .agg) _ run_noStore ?_
    refine r_stA h 1 rfl rfl rfl rfl (by simp [oneC]) fun w10 h => ?_
    refine r_stA h 0 rfl rfl (by simp) (by simp) (by simp [oneC]) fun w11 h => ?_
    refine r_ldA h 1 rfl rfl rfl ?_
    refine r_ldA h 0 rfl rfl (by simp) ?_
    refine r_retR ⟨_, [], rfl, ?_, OwnStore.nil, zero32_ok⟩
    exact (At.right (A := [_, _, _]) h).right
  · have hans : madeAns (B, k, code) = (B, k, code) := by unfold madeAns; rw [if_neg (fun hh => hh heq)]
    rw [hans]
    have hbl : bs.length = B.length := by rw [← hpb]; simp
    refine r_draw h fun w6 h => ?_
    refine r_ldA h 2 rfl rfl (by simp [hk.1]) ?_
    refine r_call h (c_spec_store (hO.rd h.pl1 (keysOf_ok _) (fun x hx => hbs x hx _ h.right.right)) (by have := hg.2.1; omega) (fun x hx => (hg.2.2 x.pb (by rw [← hpb]; exact List.mem_map_of_mem hx)).1)) fun r w7 _ _ ⟨t, bs', L', hr, hpb', hL', hO'⟩ => ?_
    rw [hpb] at hpb'
    have hOS := ownStore_of hr hpb' hO' (fun x hx => (hg.2.2 x hx).2)
    have h := (h.join hL').rot
    refine r_chk1 ?_ ?_
    · exact ldOk_blk h 2 rfl (by simp [hk.1])
    refine r_stA h 1 rfl rfl hOS.sz rfl hOS.one fun w8 h => ?_
    refine r_chk1 ?_ ?_
    · exact ldOk_blk h 2 rfl (by simp [hk.1])
    refine r_stA h 0 rfl rfl (by simp [hk.1]) (by simp) (by simpa using u8s_one) fun w9 h => ?_
    refine r_ldA h 1 rfl rfl hOS.sz ?_
    refine r_ldA h 0 rfl rfl (by simp [hk.1]) ?_
    exact r_retR ⟨r, L', by rw [heq], At.dr1 (At.right (A := [_, _, _]) h), hOS, hk⟩)

theorem puts_one (B : List PB) (c : PB) : putsAns B zero32 [c] = madeAns (putAns B c) := by
  unfold putsAns madeAns
  split
  · rfl
  · rename_i h
    have : (putAns B c).2.2 = 0 := Decidable.not_not.1 h
    simp only [putsAns]
    rw [← this]

theorem c_spec_PutBlob {w : World} {r q : Array Value} {B : List PB} {c : PB} (hr : RdStore w r B) (hq : RdBlob w q c) (hz : sizeBs B ≤ 1073741824) (_ : sizeBlob c ≤ 1073741824) :
    Ret Tryz.prog n_spec_PutBlob [.agg r, .agg q] w [.agg, .agg, .int .i64] (fun x w' => ∃ L, At w w' L ∧ OwnStore x.1 (putBAns B c).1 L ∧ RdKey w x.2.1 (putBAns B c).2.1 ∧ x.2.2 = (putBAns B c).2.2) := spec_PutBlob_calls _ _ (by
  unfold spec_PutBlob
  have hBok := hr.ok
  obtain ⟨s, bs, rfl, hpb, hs⟩ := hr
  obtain ⟨cb, rfl, rfl, hc⟩ := hq
  have hl := le_sizeBs B
  have hbl : bs.length = B.length := by rw [← hpb]; simp
  refine r_new (At.refl w) fun b2 w1 h => ?_
  refine r_new h fun b3 w2 h => ?_
  refine r_new h fun b4 w3 h => ?_
  refine r_new h fun b5 w4 h => ?_
  refine r_call h (c_l05Open (p := ⟨b2, 0, none⟩) (fun n => ldOk_own h 3 rfl 0 rfl (by simp [Sh.emb])) (hs.at h.nil)) fun r w5 h5 _ ⟨hr2, b, hr1, hr⟩ => ?_
  rw [hpb] at hr hr2
  refine r_joinI ?_
  by_cases hv : validS B
  · obtain ⟨L, hL, hO⟩ := hr hv
    rw [hr2, decide_eq_true hv]
    refine r_false rfl ?_
    have h : At w w5 ([(b5, Array.replicate 32 (.int .u8 0), ty_impl_Key), (b4, #[.slice none 0 0], ty_impl_Store), (b3, cb.cells.toArray, ty_impl_Blob), (b2, #[.slice s.a s.n s.c], ty_impl_Store)] ++ (L ++ [])) := by rw [List.append_nil]; exact (h.join hL).swap
    refine r_call h (c_l05Blob (b := cb) ⟨fun n => ldOk_own h 2 rfl 0 rfl (by simp [Sh.emb]), fun n => ldOk_own h 2 rfl 1 rfl (by simp [Sh.emb]), hc.below h.below⟩) fun r w6 h _ ⟨hr, _⟩ => ?_
    subst hr
    by_cases hd : cb.data.length ≤ 1024
    · refine r_false (by simp [hd]) ?_
      refine ⟨(), rfl, ?_⟩
      refine r_any fun _ => ?_
      have hans : putBAns B cb.pb = madeAns (putAns B cb.pb) := by unfold putBAns; rw [if_pos ⟨hv, hd⟩, puts_one]
      rw [hans, hr1]
      have hg := good_of hv hBok
      refine r_ldA h 2 rfl rfl rfl ?_
      refine r_callR (c_spec_put (c := cb) h.pl1 hO hpb (fun x hx w' hA => (hs.ok x hx).below hA.below) (fun w' hA => hc.below hA.below) (by omega) hg (fun x hx => by have := hv.2.1 x hx; omega)) ?_
      rintro v w7 ⟨bs', L', rfl, h, hO', hpb', hbs'⟩
      refine ⟨(_, _), rfl, ?_⟩
      have hk' := putAns_key B cb.pb cb.pb.key_ok
      have h := h.ps1
      refine r_new h fun b9 w8 h => ?_
      refine r_stA h 0 rfl rfl (by simp [hk'.1]) (by simp [Value.cells]) (by simpa using u8s_one) fun w9 h => ?_
      refine r_ldA h 0 rfl rfl (by simp [hk'.1]) ?_
      have h : At w w9 ([(b9, (u8s (putAns B cb.pb).2.1).toArray, ty_impl_Key), (b5, Array.replicate 32 (.int .u8 0), ty_impl_Key), (b4, #[.slice none 0 0], ty_impl_Store), (b3, cb.cells.toArray, ty_impl_Blob), (b2, #[.slice s.a s.n s.c], ty_impl_Store)] ++ (L' ++ [])) := h
      refine r_callR (c_l05Made h.pl1 hO' hpb' (fun x hx w' hA => by
        rcases hbs' x hx with rfl | hx
        · exact hc.below hA.below
        · exact (hs.ok x hx).below hA.below) hk' (putAns_good hg ⟨by show cb.data.length ≤ _; omega, hc.pb⟩)) ?_
      rintro v w10 ⟨r, L2, rfl, h, hOS, hko⟩
      refine ⟨(_, _, _), rfl, ?_⟩
      have h := At.tail h.ps1
      have e3 : madeAns ((putAns B cb.pb).1, (putAns B cb.pb).2.1, (putAns B cb.pb).2.2) = madeAns (putAns B cb.pb) := rfl
      rw [e3] at hOS hko
      rw [e3]
      refine r_stA h 1 rfl rfl hOS.sz rfl hOS.one fun w9 h => ?_
      refine r_stA h 0 rfl rfl (by simpa using hko.1) (by simp) (by simpa using u8s_one) fun w10 h => ?_
      refine r_ldA h 1 rfl rfl hOS.sz ?_
      refine r_ldA h 0 rfl rfl (by simpa using hko.1) ?_
      exact r_ret h.nil (_, _, _) rfl ⟨L2, (At.right (A := [_, _, _, _]) h).left, hOS, ⟨rfl, hko⟩, rfl⟩
    · refine r_true (by simp [hd]) ?_
      have hans : putBAns B cb.pb = ([], zero32, 1) := by unfold putBAns; rw [if_neg (fun hh => hd hh.2)]
      rw [hans]
      refine r_pur (sh := .agg) _ run_noStore ?_
      refine r_stA h 1 rfl rfl rfl rfl (by simp [oneC]) fun w8 h => ?_
      refine r_stA h 0 rfl rfl (by simp) (by simp) (by simp [oneC]) fun w9 h => ?_
      refine r_ldA h 1 rfl rfl rfl ?_
      refine r_ldA h 0 rfl rfl (by simp) ?_
      exact r_ret h.nil (_, _, _) rfl ⟨[], h.nil, OwnStore.nil, ⟨rfl, zero32_ok⟩, rfl⟩
  · rw [hr2, decide_eq_false hv]
    refine r_true rfl ?_
    have hans : putBAns B cb.pb = ([], zero32, 1) := by unfold putBAns; rw [if_neg (fun hh => hv hh.1)]
    rw [hans]
    refine r_pur (sh := .agg) _ run_noStore ?_
    refine r_stA h5 1 rfl rfl rfl rfl (by simp [oneC]) fun w8 h => ?_
    refine r_stA h 0 rfl rfl (by simp) (by simp [Value.cells]) (by simp [oneC]) fun w9 h => ?_
    refine r_ldA h 1 rfl rfl rfl ?_
    refine r_ldA h 0 rfl rfl (by simp) ?_
    exact r_ret h.nil (_, _, _) rfl ⟨[], h.nil, OwnStore.nil, ⟨rfl, zero32_ok⟩, rfl⟩)
end Go.Proofs.YtkifkdkjljcclaaGreat
