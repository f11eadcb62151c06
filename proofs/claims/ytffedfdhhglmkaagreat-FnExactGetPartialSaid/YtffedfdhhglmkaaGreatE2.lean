/- GetPartial: both sides' answers. -/
import Derived.Test.YtffedfdhhglmkaaGreatE1
namespace Go.Proofs.YtffedfdhhglmkaaGreat
open Go.Sx Go.RowKit

theorem getG_want {B : List PB} {name : ByteArray} (hB : ∀ b ∈ B, bytesOk b.data) (hv : validS B) {k : List Int} (hk : keyOk k) : keyOk (getG name (pathG B emptyKey name 65 k [])).2.1 := by
  have h := pathG_want (e := emptyKey) (name := name) hB hv 65 k [] hk
  unfold getG
  split
  · split
    · split <;> exact zero32_ok
    · exact zero32_ok
  · exact h

theorem c_impl_GetPartial {w : World} {r a : Array Value} {B : List PB} {k : List Int} {name : ByteArray} (hr : RdStore w r B) (ha : RdKey w a k) (hz : sizeBs B ≤ 1073741824) :
    Ret Tryz.prog n_impl_GetPartial [.agg r, .agg a, .string name] w [.str, .agg, .int .i64] (fun x _ => x.1 = (getPAns B k name).1 ∧ RdKey w x.2.1 (getPAns B k name).2.1 ∧ x.2.2 = (getPAns B k name).2.2) := impl_GetPartial_calls _ _ _ (by
  unfold impl_GetPartial
  obtain ⟨s, bs, rfl, hpb, hs⟩ := hr
  obtain ⟨rfl, hk⟩ := ha
  have hl := le_sizeBs B
  have hbl : bs.length = B.length := by rw [← hpb]; simp
  have hB : ∀ b ∈ B, bytesOk b.data := fun b hb => by
    rw [← hpb] at hb
    obtain ⟨x, hx, rfl⟩ := List.mem_map.1 hb
    exact (hs.ok x hx).bytes.ok
  refine r_new (At.refl w) fun b3 w1 h => ?_
  refine r_new h fun b4 w2 h => ?_
  refine r_new h fun b7 w3 h => ?_
  have h : At w w3 [(b7, Array.replicate 32 (.int .u8 0), ty_impl_Key), (b4, (u8s k).toArray, ty_impl_Key), (b3, #[.slice s.a s.n s.c], ty_impl_Store)] := h
  refine r_ldA h 2 rfl rfl rfl ?_
  refine r_call h (c_newShop (hs.at h) (by omega)) fun r13 w4 h4 _ hr => ?_
  rw [hpb] at hr
  have bad_ : ∀ {G : ByteArray × List Int × Int} {w' : World}, G = (⟨#[]⟩, zero32, 1) → At w w' [(b7, Array.replicate 32 (.int .u8 0), ty_impl_Key), (b4, (u8s k).toArray, ty_impl_Key), (b3, #[.slice s.a s.n s.c], ty_impl_Store)] → ((real Tryz.prog (RR w [.str, .agg, .int .i64] (fun x _ => x.1 = G.1 ∧ RdKey w x.2.1 G.2.1 ∧ x.2.2 = G.2.2))).st 32 (Addr.mk b7 0 none) (.agg (Array.replicate 32 (.int .u8 0))) <| (real Tryz.prog (RR w [.str, .agg, .int .i64] (fun x _ => x.1 = G.1 ∧ RdKey w x.2.1 G.2.1 ∧ x.2.2 = G.2.2))).ld .agg 32 (Addr.mk b7 0 none) fun z6 => (real Tryz.prog (RR w [.str, .agg, .int .i64] (fun x _ => x.1 = G.1 ∧ RdKey w x.2.1 G.2.1 ∧ x.2.2 = G.2.2))).ret (.tuple #[(.string (⟨#[]⟩ : ByteArray)), (.agg z6), (.int .i64 1)]) : World → Prop) w' := by
    rintro _ w' rfl h
    refine r_stA h 0 rfl rfl (by simp) (by simp) (by simp [oneC]) fun w5 h => ?_
    refine r_ldA h 0 rfl rfl (by simp) ?_
    exact r_ret h.nil ((⟨#[]⟩ : ByteArray), _, (1 : Int)) rfl ⟨rfl, ⟨rfl, zero32_ok⟩, rfl⟩
  refine r_joinI ?_
  rcases hr with ⟨hv, b, L, rfl, hL, hO⟩ | ⟨hv, rfl⟩
  · refine r_false rfl ?_
    refine r_callp (c_isName name) ?_
    by_cases hn : nameOk name.size = true
    · refine r_false (by rw [hn]; rfl) ?_
      refine ⟨(), rfl, ?_⟩
      refine r_any fun _ => ?_
      have hc : getPAns B k name = getG name (pathG B emptyKey name 65 k []) := by unfold getPAns; rw [if_pos hv, if_pos hn]
      rw [hc]
      have h : At w w4 ([(b7, Array.replicate 32 (.int .u8 0), ty_impl_Key), (b4, (u8s k).toArray, ty_impl_Key), (b3, #[.slice s.a s.n s.c], ty_impl_Store)] ++ (L ++ [])) := by rw [List.append_nil]; exact (h.join hL).swap
      have hwt := getG_want (name := name) hB hv hk
      refine r_ldA h 1 rfl rfl (by simp [hk.1]) ?_
      refine r_call h (c_partial (name := name) (hO.rd h.pl1 (keysOf_ok _) (fun b hb => (hs.at h.nil).ok b hb)) hpb hv hB hk) fun r27 w5 h _ hq => ?_
      obtain ⟨q1, q2, q3⟩ := hq
      generalize getG name (pathG B emptyKey name 65 k []) = G at q1 q2 q3 hwt ⊢
      refine r_stA h 0 rfl rfl (by rw [q2]; simp [hwt.1]) (by simp) (by rw [q2]; simpa using u8s_one) fun w6 h => ?_
      refine r_ldA h 0 rfl rfl (by rw [q2]; simp [hwt.1]) ?_
      exact r_ret h.nil (r27.1, r27.2.1, r27.2.2) rfl ⟨q1, ⟨q2, hwt⟩, q3⟩
    · refine r_true (by simpa using hn) ?_
      exact bad_ (by unfold getPAns; rw [if_pos hv, if_neg hn]) h4
  · refine r_true rfl ?_
    exact bad_ (by unfold getPAns; rw [if_neg hv]) h4)

/-! ### The reference -/
def PathQ (w : World) (R : List (List Int) × List Int × Int) (r : Sl × Array Value × Int) (w' : World) : Prop :=
  ∃ (ds : List (List Int)) (Lp : List Blk), At w w' (Lp ++ []) ∧ OwnS ty_impl_MapNode 66 r.1 (ds.flatMap nodeCells) Lp ∧ r.1.n = ds.length ∧ (∀ d ∈ ds, 64 ≤ d.length) ∧ r.2.1 = (u8s R.2.1).toArray ∧ r.2.2 = R.2.2 ∧ (R.2.2 = 0 → ds = R.1)

theorem c_l08Path {w : World} {p : Addr} {B : List PB} {bs : List BR} {k : List Int} {name : ByteArray} (hs : SpecR w p (keysOf B) bs) (hpb : bs.map BR.pb = B) (hv : validS B) (hk : keyOk k) :
    Ret Tryz.prog n_spec_l08Path [.pointer (some p), .agg (u8s k).toArray, .string name] w [.slice, .agg, .int .i64] (PathQ w (pathG B emptyKey name 65 k [])) := spec_l08Path_calls _ _ _ (by
  unfold spec_l08Path
  refine r_new (At.refl w) fun b4 w1 h => ?_
  refine r_new h fun b7 w2 h => ?_
  refine r_bs0 T_sl_Node h fun y w3 hy hyn => ?_
  obtain ⟨Lp, hOp, h⟩ := hy.split
  have h : At w w3 (Lp ++ ([(b7, Array.replicate 32 (.int .u8 0), ty_impl_Key)] ++ ([(b4, (u8s k).toArray, ty_impl_Key)] ++ []))) := h
  refine r_ldA h.pl2 0 rfl rfl (by simp [hk.1]) ?_
  have h := h.dr2
  refine r_new h fun b10 w4 h => ?_
  refine r_stA h 0 rfl rfl (by simp [hk.1]) (by simp [Value.cells]) (by simpa using u8s_one) fun w5 h => ?_
  have h : At w w5 ([(b10, (u8s k).toArray, ty_impl_Key)] ++ (Lp ++ ([(b7, Array.replicate 32 (.int .u8 0), ty_impl_Key)] ++ []))) := h
  generalize hR : pathG B emptyKey name 65 k [] = R
  refine r_loop (σ := Sl × Addr) (fun s w' => ∃ (f : Nat) (kk : List Int) (ds : List (List Int)) (Lp : List Blk) (b10 : Nat), s.2 = ⟨b10, 0, none⟩ ∧ keyOk kk ∧ f + ds.length = 65 ∧ s.1.n = ds.length ∧ ds.length ≤ 64 ∧ (∀ d ∈ ds, 64 ≤ d.length) ∧ pathG B emptyKey name f kk ds = R ∧ OwnS ty_impl_MapNode 66 s.1 (ds.flatMap nodeCells) Lp ∧
      At w w' ([(b10, (u8s kk).toArray, ty_impl_Key)] ++ (Lp ++ ([(b7, Array.replicate 32 (.int .u8 0), ty_impl_Key)] ++ [])))) (fun s _ => 65 - s.1.n) (y, ⟨b10, 0, none⟩) rfl
    ⟨65, k, [], Lp, b10, rfl, hk, rfl, hyn, by simp, by simp, hR, by simpa using hOp, h⟩ ?_
  clear hOp h hy hyn hR
  rintro ⟨so, pa⟩ w6 ⟨f, kk, ds, Lp, b10, hpa, hkk, hf, hsn, hd64, hdl, hgo, hOp, h⟩
  dsimp only at hpa hsn hOp
  subst hpa
  refine r_any fun _ => ?_
  obtain ⟨f, rfl⟩ : ∃ f', f = f' + 1 := ⟨f - 1, by omega⟩
  rw [pathG_succ] at hgo
  refine r_joinI ?_
  refine r_draw h fun w7 h => ?_
  refine r_ldA h 0 rfl rfl (by simp [hkk.1]) ?_
  refine r_call h (c_l04Empty _) fun r16 w8 h _ hr => ?_
  subst hr
  refine r_chk1 ?_ ?_
  · exact ldOk_blk h 0 rfl (by simp [hkk.1])
  refine r_pur _ (fun w' => run_neq_key _ _ hkk.1 emptyKey_ok.1 w') ?_
  by_cases hke : kk = emptyKey
  · rw [if_pos hke] at hgo
    refine r_false (by simp [hke]) ?_
    subst hgo
    have h : At w w8 ([(b7, Array.replicate 32 (.int .u8 0), ty_impl_Key)] ++ ([(b10, (u8s kk).toArray, ty_impl_Key)] ++ (Lp ++ []))) := h.pl2
    refine r_stA h 0 rfl rfl (by simp) (by simp) (by simp [oneC]) fun w9 h => ?_
    refine r_ldA h 0 rfl rfl (by simp) ?_
    have h : At w w9 ([(b7, Array.replicate 32 (.int .u8 0), ty_impl_Key), (b10, (u8s kk).toArray, ty_impl_Key)] ++ (Lp ++ [])) := h
    exact r_ret h.nil (so, _, (0 : Int)) rfl ⟨ds, Lp, At.right (A := [_, _]) h, hOp, hsn, hdl, rfl, rfl, fun _ => rfl⟩
  rw [if_neg hke] at hgo
  refine r_true (by simp [hke]) ?_
  refine ⟨(), rfl, ?_⟩
  refine r_any fun _ => ?_
  refine r_ldA h 0 rfl rfl (by simp [hkk.1]) ?_
  refine r_call h (c_l08Node (hs.at h) hpb hv hkk) fun r21 w9 h _ ⟨hr1, hr2, hr3⟩ => ?_
  refine r_new h fun b11 w10 h => ?_
  refine r_stA h 0 rfl rfl hr1 rfl hr2 fun w11 h => ?_
  have h : At w w11 ([(b11, r21.1, ty_impl_MapNode), (b10, (u8s kk).toArray, ty_impl_Key)] ++ (Lp ++ ([(b7, Array.replicate 32 (.int .u8 0), ty_impl_Key)] ++ []))) := h
  have bad_ : ∀ {c : Int}, c ≠ 0 → R = ([], zero32, c) →
      ((real Tryz.prog (RR w [.slice, .agg, .int .i64] (PathQ w R))).sem (Instr.buildSlice ty_sl_impl_MapNode 0 #[]) .slice fun y31 => (real Tryz.prog (RR w [.slice, .agg, .int .i64] (PathQ w R))).st 32 (Addr.mk b7 0 none) (.agg (Array.replicate 32 (.int .u8 0))) <| (real Tryz.prog (RR w [.slice, .agg, .int .i64] (PathQ w R))).ld .agg 32 (Addr.mk b7 0 none) fun z19 => (real Tryz.prog (RR w [.slice, .agg, .int .i64] (PathQ w R))).ret (.tuple #[(.slice y31.a y31.n y31.c), (.agg z19), (.int .i64 c)]) : World → Prop) w11 := by
    intro c hc hRe
    subst hRe
    refine r_bs0 T_sl_Node h fun y31 w12 hy hyn => ?_
    obtain ⟨Ly, hOy, h⟩ := hy.split
    have h : At w w12 (Ly ++ ([(b11, r21.1, ty_impl_MapNode), (b10, (u8s kk).toArray, ty_impl_Key)] ++ (Lp ++ ([(b7, Array.replicate 32 (.int .u8 0), ty_impl_Key)] ++ [])))) := h
    have h := h.pl3
    refine r_stA h 0 rfl rfl (by simp) (by simp) (by simp [oneC]) fun w13 h => ?_
    refine r_ldA h 0 rfl rfl (by simp) ?_
    have h : At w w13 ([(b7, Array.replicate 32 (.int .u8 0), ty_impl_Key)] ++ (Ly ++ ([(b11, r21.1, ty_impl_MapNode), (b10, (u8s kk).toArray, ty_impl_Key)] ++ (Lp ++ [])))) := h
    exact r_ret h.nil (y31, _, c) rfl ⟨[], Ly, h.right.dr1.dr1, by simpa using hOy, hyn, by simp, rfl, rfl, fun hh => absurd hh hc⟩
  rcases hr3 with ⟨hm, hc⟩ | ⟨hm, hng, hc⟩ | ⟨hm, hng, hdok, hc⟩
  · rw [if_neg hm] at hgo
    subst hgo
    rw [hc]
    refine r_true rfl ?_
    refine r_draw h fun w12 h => ?_
    refine r_ldA h 1 rfl rfl (by simp [hkk.1]) ?_
    refine r_bs0 T_sl_Node h fun y26 w13 hy hyn => ?_
    obtain ⟨Ly, hOy, h⟩ := hy.split
    have h : At w w13 (Ly ++ ([(b11, r21.1, ty_impl_MapNode), (b10, (u8s kk).toArray, ty_impl_Key)] ++ (Lp ++ ([(b7, Array.replicate 32 (.int .u8 0), ty_impl_Key)] ++ [])))) := h
    refine r_chk1 ?_ ?_
    · exact ldOk_blk h.right 1 rfl (by simp [hkk.1])
    have h := h.pl3
    refine r_stA h 0 rfl rfl (by simp [hkk.1]) (by simp) (by simpa using u8s_one) fun w14 h => ?_
    refine r_ldA h 0 rfl rfl (by simp [hkk.1]) ?_
    have h : At w w14 ([(b7, (u8s kk).toArray, ty_impl_Key)] ++ (Ly ++ ([(b11, r21.1, ty_impl_MapNode), (b10, (u8s kk).toArray, ty_impl_Key)] ++ (Lp ++ [])))) := h
    exact r_ret h.nil (y26, _, (4 : Int)) rfl ⟨[], Ly, h.right.dr1.dr1, by simpa using hOy, hyn, by simp, rfl, rfl, fun hh => absurd hh (by simp)⟩
  · rw [if_pos hm, if_neg (fun hh => hng hh.1)] at hgo
    rw [hc]
    refine r_false rfl ?_
    refine r_true rfl ?_
    exact bad_ (by decide) hgo.symm
  · rw [if_pos hm] at hgo
    generalize hdd : (blobAt B kk).data = d at hgo hdok hc
    have hno : nodeOk d := by have := hng.2; rw [hdd] at this; exact this
    have h65 := hno.1
    have hnl : (nodeCells d).length = 66 := nodeCells_len (by omega)
    have k0 : keyOk (part32 d 0) := part32_key (by omega) hdok
    have k1 : keyOk (part32 d 32) := part32_key (by omega) hdok
    have hr2' : r21.2 = 0 := by rw [hc]
    have hr1' : r21.1 = (nodeCells d).toArray := by rw [hc]
    rw [hr2']
    rw [hr1'] at h
    refine r_false rfl ?_
    refine r_false rfl ?_
    refine r_if ((so.n : Int) ≥ 64) rfl (fun hge => ?_) (fun hlt => ?_)
    · rw [if_neg (fun hh => by have := hh.2; omega)] at hgo
      exact bad_ (by decide) hgo.symm
    rw [if_pos ⟨hng, by omega⟩] at hgo
    refine r_ldA h 0 rfl rfl (by simpa using hnl) ?_
    refine r_bs1 T_sl_Node h (by simpa [Value.cells] using hnl) (by omega) fun y41 w12 hy hyn => ?_
    rw [show (Value.agg (nodeCells d).toArray).cells.toList = nodeCells d by simp [Value.cells]] at hy
    obtain ⟨Ly, hOy, h⟩ := hy.split
    have h : At w w12 (Ly ++ ([(b11, (nodeCells d).toArray, ty_impl_MapNode), (b10, (u8s kk).toArray, ty_impl_Key)] ++ (Lp ++ ([(b7, Array.replicate 32 (.int .u8 0), ty_impl_Key)] ++ [])))) := h
    refine r_append T_sl_Node (hOp.slo h.pl2) (hOy.sl h (List.sublist_append_left _ _)) (nodeCells_one d) (by dsimp only; omega) (by dsimp only; omega) fun y42 w13 hS hn42 => ?_
    obtain ⟨Lp', hOp', h⟩ := hS.split
    have h : At w w13 (Lp' ++ (Ly ++ ([(b11, (nodeCells d).toArray, ty_impl_MapNode), (b10, (u8s kk).toArray, ty_impl_Key)] ++ ([(b7, Array.replicate 32 (.int .u8 0), ty_impl_Key)] ++ [])))) := h
    have h : At w w13 ([(b11, (nodeCells d).toArray, ty_impl_MapNode), (b10, (u8s kk).toArray, ty_impl_Key)] ++ (Lp' ++ ([(b7, Array.replicate 32 (.int .u8 0), ty_impl_Key)] ++ []))) := h.dr1.pl1
    have hOp'' : OwnS ty_impl_MapNode 66 y42 ((ds ++ [d]).flatMap nodeCells) Lp' := by rw [List.flatMap_append]; simpa using hOp'
    have hlen : (ds ++ [d]).length = ds.length + 1 := by simp
    have hn43 : y42.n = ds.length + 1 := by have e : y42.n = so.n + y41.n := hn42; omega
    have hall : ∀ x ∈ ds ++ [d], 64 ≤ x.length := fun x hx => by
      rcases List.mem_append.1 hx with hx | hx
      · exact hdl x hx
      · rw [List.mem_singleton.1 hx]; omega
    refine r_ld h 0 rfl (by rw [add_lit, add_lit]) (nmOf d) (by simp [Sh.emb]) (nodeCells_name (by omega)) ?_
    refine r_pur _ (fun w' => run_eql_str _ _ _ _ _ w') ?_
    refine r_if (sameN (nmOf d) name = true) (by unfold sameN; rw [Bool.decide_eq_true]) (fun hsame => ?_) (fun hdiff => ?_)
    · rw [if_pos hsame] at hgo
      subst hgo
      have h := h.pl2
      refine r_stA h 0 rfl rfl (by simp) (by simp) (by simp [oneC]) fun w14 h => ?_
      refine r_ldA h 0 rfl rfl (by simp) ?_
      have h : At w w14 ([(b7, Array.replicate 32 (.int .u8 0), ty_impl_Key), (b11, (nodeCells d).toArray, ty_impl_MapNode), (b10, (u8s kk).toArray, ty_impl_Key)] ++ (Lp' ++ [])) := h
      exact r_ret h.nil (y42, _, (0 : Int)) rfl ⟨ds ++ [d], Lp', At.right (A := [_, _, _]) h, hOp'', by rw [hn42, hyn, hlen]; omega, hall, rfl, rfl, fun _ => rfl⟩
    · rw [if_neg hdiff] at hgo
      refine r_ld h 0 rfl (by rw [add_lit, add_lit]) (nmOf d) (by simp [Sh.emb]) (nodeCells_name (by omega)) ?_
      refine r_pur _ (fun w' => run_lss_str _ _ _ _ _ w') ?_
      refine r_if (ltN name (nmOf d) = true) (by unfold ltN; rw [Bool.decide_eq_true]) (fun hl => ?_) (fun hg => ?_)
      · rw [if_pos hl] at hgo
        refine r_ldP h 0 rfl (add_lit _ _ _) (by simp [hnl]) ?_
        rw [show (0 + 0 : Nat) = 0 from rfl, nodeCells_left (by omega)]
        refine r_stA h 1 rfl rfl (by simp [k0.1]) (by simp [hkk.1]) (by simpa using u8s_one) fun w14 h => ?_
        refine r_ldA h 1 rfl rfl (by simp [k0.1]) ?_
        refine r_new h fun b10' w15 h => ?_
        refine r_stA h 0 rfl rfl (by simp [k0.1]) (by simp [Value.cells]) (by simpa using u8s_one) fun w16 h => ?_
        have h : At w w16 ([(b10', (u8s (part32 d 0)).toArray, ty_impl_Key)] ++ ([(b11, (nodeCells d).toArray, ty_impl_MapNode), (b10, (u8s (part32 d 0)).toArray, ty_impl_Key)] ++ (Lp' ++ ([(b7, Array.replicate 32 (.int .u8 0), ty_impl_Key)] ++ [])))) := h
        exact ⟨(y42, ⟨b10', 0, none⟩), rfl, ⟨f, _, ds ++ [d], Lp', b10', rfl, k0, by rw [hlen]; omega, by rw [hlen]; exact hn43, by rw [hlen]; omega, hall, hgo, hOp'', h.dr1⟩, by show 65 - y42.n < 65 - so.n; omega⟩
      · rw [if_neg hg] at hgo
        refine r_ldP h 0 rfl (add_lit _ _ _) (by simp [hnl]) ?_
        rw [show (0 + 32 : Nat) = 32 from rfl, nodeCells_right (by omega)]
        refine r_stA h 1 rfl rfl (by simp [k1.1]) (by simp [hkk.1]) (by simpa using u8s_one) fun w14 h => ?_
        refine r_ldA h 1 rfl rfl (by simp [k1.1]) ?_
        refine r_new h fun b10' w15 h => ?_
        refine r_stA h 0 rfl rfl (by simp [k1.1]) (by simp [Value.cells]) (by simpa using u8s_one) fun w16 h => ?_
        have h : At w w16 ([(b10', (u8s (part32 d 32)).toArray, ty_impl_Key)] ++ ([(b11, (nodeCells d).toArray, ty_impl_MapNode), (b10, (u8s (part32 d 32)).toArray, ty_impl_Key)] ++ (Lp' ++ ([(b7, Array.replicate 32 (.int .u8 0), ty_impl_Key)] ++ [])))) := h
        exact ⟨(y42, ⟨b10', 0, none⟩), rfl, ⟨f, _, ds ++ [d], Lp', b10', rfl, k1, by rw [hlen]; omega, by rw [hlen]; exact hn43, by rw [hlen]; omega, hall, hgo, hOp'', h.dr1⟩, by show 65 - y42.n < 65 - so.n; omega⟩)

theorem c_l08Get {w : World} {p : Addr} {B : List PB} {bs : List BR} {k : List Int} {name : ByteArray} (hs : SpecR w p (keysOf B) bs) (hpb : bs.map BR.pb = B) (hv : validS B) (hB : ∀ b ∈ B, bytesOk b.data) (hk : keyOk k) :
    Ret Tryz.prog n_spec_l08Get [.pointer (some p), .agg (u8s k).toArray, .string name] w [.str, .agg, .int .i64] (fun r _ => r.1 = (getG name (pathG B emptyKey name 65 k [])).1 ∧ r.2.1 = (u8s (getG name (pathG B emptyKey name 65 k [])).2.1).toArray ∧ r.2.2 = (getG name (pathG B emptyKey name 65 k [])).2.2) := spec_l08Get_calls _ _ _ (by
  unfold spec_l08Get
  have hwant := pathG_want (e := emptyKey) (name := name) hB hv 65 k [] hk
  refine r_new (At.refl w) fun b4 w1 h => ?_
  refine r_new h fun b7 w2 h => ?_
  have h : At w w2 [(b7, Array.replicate 32 (.int .u8 0), ty_impl_Key), (b4, (u8s k).toArray, ty_impl_Key)] := h
  refine r_ldA h 1 rfl rfl (by simp [hk.1]) ?_
  refine r_call h (c_l08Path (name := name) (hs.at h) hpb hv hk) fun r16 w3 _ _ hq => ?_
  generalize pathG B emptyKey name 65 k [] = R at hwant hq
  obtain ⟨ds, Lp, hL, hO, hsn, hdl, hr2, hr3, hdR⟩ := hq
  have h : At w w3 ([(b7, Array.replicate 32 (.int .u8 0), ty_impl_Key), (b4, (u8s k).toArray, ty_impl_Key)] ++ (Lp ++ [])) := (h.join hL).swap
  refine r_new h fun b10 w4 h => ?_
  refine r_stA h 0 rfl rfl (by rw [hr2]; simp [hwant.1]) (by simp [Value.cells]) (by rw [hr2]; simpa using u8s_one) fun w5 h => ?_
  have h : At w w5 ([(b10, r16.2.1, ty_impl_Key), (b7, Array.replicate 32 (.int .u8 0), ty_impl_Key), (b4, (u8s k).toArray, ty_impl_Key)] ++ (Lp ++ [])) := h
  rw [hr3]
  by_cases hc : R.2.2 = 0
  · have hds := hdR hc
    subst hds
    refine r_ne (fun hne => absurd hc hne) (fun _ => ?_)
    have none_ : ∀ {G : ByteArray × List Int × Int}, G = (⟨#[]⟩, zero32, 6) → ((real Tryz.prog (RR w [.str, .agg, .int .i64] (fun r _ => r.1 = G.1 ∧ r.2.1 = (u8s G.2.1).toArray ∧ r.2.2 = G.2.2))).st 32 (Addr.mk b7 0 none) (.agg (Array.replicate 32 (.int .u8 0))) <| (real Tryz.prog (RR w [.str, .agg, .int .i64] (fun r _ => r.1 = G.1 ∧ r.2.1 = (u8s G.2.1).toArray ∧ r.2.2 = G.2.2))).ld .agg 32 (Addr.mk b7 0 none) fun z15 => (real Tryz.prog (RR w [.str, .agg, .int .i64] (fun r _ => r.1 = G.1 ∧ r.2.1 = (u8s G.2.1).toArray ∧ r.2.2 = G.2.2))).ret (.tuple #[(.string (⟨#[]⟩ : ByteArray)), (.agg z15), (.int .i64 6)]) : World → Prop) w5 := by
      rintro _ rfl
      refine r_stA h 1 rfl rfl (by simp) (by simp) (by simp [oneC]) fun w5 h => ?_
      refine r_ldA h 1 rfl rfl (by simp) ?_
      exact r_ret h.nil ((⟨#[]⟩ : ByteArray), _, (6 : Int)) rfl ⟨rfl, rfl, rfl⟩
    refine r_joinI ?_
    cases hlast : R.1.getLast? with
    | none =>
      have hnil : R.1 = [] := List.getLast?_eq_none_iff.1 hlast
      have h0 : r16.1.n = 0 := by rw [hsn, hnil]; rfl
      refine r_eq (fun _ => ?_) (fun hh => absurd (by omega) hh)
      refine none_ ?_
      unfold getG
      rw [if_pos hc, hlast]
    | some d =>
      obtain ⟨q, hq, h0, hnm, hvl⟩ := last_node hO h ((List.sublist_append_left _ _).trans (List.sublist_append_right _ _)) hsn hdl hlast
      have hmx : r16.1.n ≤ 9223372036854775807 := Nat.le_trans hO.cap (Nat.le_trans hO.max (by decide))
      refine r_eq (fun hh => absurd hh (by omega)) (fun _ => ?_)
      rw [w64 (n := (r16.1.n : Int) - 1) (by omega) (by omega)]
      refine r_ix q hq (by omega) (by omega) ?_
      rw [show ((r16.1.n : Int) - 1).toNat = R.1.length - 1 by omega]
      refine r_ldN (sh := .str) (nmOf d) hnm ?_
      refine r_pur _ (fun w' => run_neq_str _ _ _ _ _ w') ?_
      by_cases hsame : sameN (nmOf d) name = true
      · have hG : getG name R = (vlOf d, zero32, 0) := by unfold getG; rw [if_pos hc, hlast]; exact if_pos hsame
        rw [hG]
        refine r_false (by unfold sameN at hsame; rw [hsame]; rfl) ?_
        refine ⟨(), rfl, ?_⟩
        refine r_any fun _ => ?_
        refine r_ix q hq (by omega) (by omega) ?_
        rw [show ((r16.1.n : Int) - 1).toNat = R.1.length - 1 by omega]
        refine r_ldN (sh := .str) (vlOf d) hvl ?_
        refine r_stA h 1 rfl rfl (by simp) (by simp) (by simp [oneC]) fun w6 h => ?_
        refine r_ldA h 1 rfl rfl (by simp) ?_
        exact r_ret h.nil (vlOf d, _, (0 : Int)) rfl ⟨rfl, rfl, rfl⟩
      · refine r_true (by unfold sameN at hsame; simpa using hsame) ?_
        exact none_ (by unfold getG; rw [if_pos hc, hlast]; exact if_neg hsame)
  · refine r_ne (fun _ => ?_) (fun heq => absurd heq hc)
    have g0 : getG name R = (⟨#[]⟩, R.2.1, R.2.2) := by unfold getG; rw [if_neg hc]
    rw [g0]
    refine r_draw h fun w6 h => ?_
    refine r_ldA h 0 rfl rfl (by rw [hr2]; simp [hwant.1]) ?_
    refine r_stA h 1 rfl rfl (by rw [hr2]; simp [hwant.1]) (by simp) (by rw [hr2]; simpa using u8s_one) fun w7 h => ?_
    refine r_ldA h 1 rfl rfl (by rw [hr2]; simp [hwant.1]) ?_
    exact r_ret h.nil ((⟨#[]⟩ : ByteArray), r16.2.1, R.2.2) rfl ⟨rfl, hr2, rfl⟩)

theorem c_spec_GetPartial {w : World} {r a : Array Value} {B : List PB} {k : List Int} {name : ByteArray} (hr : RdStore w r B) (ha : RdKey w a k) (hz : sizeBs B ≤ 1073741824) :
    Ret Tryz.prog n_spec_GetPartial [.agg r, .agg a, .string name] w [.str, .agg, .int .i64] (fun x _ => x.1 = (getPAns B k name).1 ∧ RdKey w x.2.1 (getPAns B k name).2.1 ∧ x.2.2 = (getPAns B k name).2.2) := spec_GetPartial_calls _ _ _ (by
  unfold spec_GetPartial
  obtain ⟨s, bs, rfl, hpb, hs⟩ := hr
  obtain ⟨rfl, hk⟩ := ha
  have hl := le_sizeBs B
  have hbl : bs.length = B.length := by rw [← hpb]; simp
  have hB : ∀ b ∈ B, bytesOk b.data := fun b hb => by
    rw [← hpb] at hb
    obtain ⟨x, hx, rfl⟩ := List.mem_map.1 hb
    exact (hs.ok x hx).bytes.ok
  refine r_new (At.refl w) fun b3 w1 h => ?_
  refine r_new h fun b4 w2 h => ?_
  refine r_new h fun b7 w3 h => ?_
  have h : At w w3 [(b7, Array.replicate 32 (.int .u8 0), ty_impl_Key), (b4, (u8s k).toArray, ty_impl_Key), (b3, #[.slice s.a s.n s.c], ty_impl_Store)] := h
  refine r_call h (c_l05Open (p := ⟨b3, 0, none⟩) (fun n => ldOk_own h 2 rfl 0 rfl (by simp [Sh.emb])) (hs.at h.nil)) fun r12 w4 h4 _ ⟨hr2, b, hr1, hr⟩ => ?_
  rw [hpb] at hr hr2
  have bad_ : ∀ {G : ByteArray × List Int × Int} {w' : World}, G = (⟨#[]⟩, zero32, 1) → At w w' [(b7, Array.replicate 32 (.int .u8 0), ty_impl_Key), (b4, (u8s k).toArray, ty_impl_Key), (b3, #[.slice s.a s.n s.c], ty_impl_Store)] → ((real Tryz.prog (RR w [.str, .agg, .int .i64] (fun x _ => x.1 = G.1 ∧ RdKey w x.2.1 G.2.1 ∧ x.2.2 = G.2.2))).st 32 (Addr.mk b7 0 none) (.agg (Array.replicate 32 (.int .u8 0))) <| (real Tryz.prog (RR w [.str, .agg, .int .i64] (fun x _ => x.1 = G.1 ∧ RdKey w x.2.1 G.2.1 ∧ x.2.2 = G.2.2))).ld .agg 32 (Addr.mk b7 0 none) fun z6 => (real Tryz.prog (RR w [.str, .agg, .int .i64] (fun x _ => x.1 = G.1 ∧ RdKey w x.2.1 G.2.1 ∧ x.2.2 = G.2.2))).ret (.tuple #[(.string (⟨#[]⟩ : ByteArray)), (.agg z6), (.int .i64 1)]) : World → Prop) w' := by
    rintro _ w' rfl h
    refine r_stA h 0 rfl rfl (by simp) (by simp) (by simp [oneC]) fun w5 h => ?_
    refine r_ldA h 0 rfl rfl (by simp) ?_
    exact r_ret h.nil ((⟨#[]⟩ : ByteArray), _, (1 : Int)) rfl ⟨rfl, ⟨rfl, zero32_ok⟩, rfl⟩
  refine r_joinI ?_
  by_cases hv : validS B
  · obtain ⟨L, hL, hO⟩ := hr hv
    rw [hr2, decide_eq_true hv, hr1]
    refine r_false rfl ?_
    refine r_callp (c_l04Name name) ?_
    by_cases hn : nameOk name.size = true
    · refine r_false (by rw [hn]; rfl) ?_
      refine ⟨(), rfl, ?_⟩
      refine r_any fun _ => ?_
      have hc : getPAns B k name = getG name (pathG B emptyKey name 65 k []) := by unfold getPAns; rw [if_pos hv, if_pos hn]
      rw [hc]
      have h : At w w4 ([(b7, Array.replicate 32 (.int .u8 0), ty_impl_Key), (b4, (u8s k).toArray, ty_impl_Key), (b3, #[.slice s.a s.n s.c], ty_impl_Store)] ++ (L ++ [])) := by rw [List.append_nil]; exact (h.join hL).swap
      have hwt := getG_want (name := name) hB hv hk
      refine r_ldA h 1 rfl rfl (by simp [hk.1]) ?_
      refine r_call h (c_l08Get (name := name) (hO.rd h.pl1 (keysOf_ok _) (fun b hb => (hs.at h.nil).ok b hb)) hpb hv hB hk) fun r27 w5 h _ hq => ?_
      obtain ⟨q1, q2, q3⟩ := hq
      generalize getG name (pathG B emptyKey name 65 k []) = G at q1 q2 q3 hwt ⊢
      refine r_stA h 0 rfl rfl (by rw [q2]; simp [hwt.1]) (by simp) (by rw [q2]; simpa using u8s_one) fun w6 h => ?_
      refine r_ldA h 0 rfl rfl (by rw [q2]; simp [hwt.1]) ?_
      exact r_ret h.nil (r27.1, r27.2.1, r27.2.2) rfl ⟨q1, ⟨q2, hwt⟩, q3⟩
    · refine r_true (by simpa using hn) ?_
      exact bad_ (by unfold getPAns; rw [if_pos hv, if_neg hn]) h4
  · rw [hr2, decide_eq_false hv]
    refine r_true rfl ?_
    exact bad_ (by unfold getPAns; rw [if_neg hv]) h4)
end Go.Proofs.YtffedfdhhglmkaaGreat
