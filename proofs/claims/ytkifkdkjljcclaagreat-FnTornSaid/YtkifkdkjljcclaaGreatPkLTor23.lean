/- The tree of a map: the reference; which lists of entries are maps: both sides. -/
import Derived.Test.YtkifkdkjljcclaaGreatPkLTor21
namespace Go.Proofs.YtkifkdkjljcclaaGreat
open Go.Sx Go.RowKit

def goodE (es : List PE) (j : Nat) : Bool := (nameOk (entE es j).1.size && decide ((entE es j).2.size ≤ 64)) && (decide (j = 0) || Op.bytesLess (entE es (j - 1)).1.toList (entE es j).1.toList)
def okE (es : List PE) : Prop := (∀ j, j < es.length → goodE es j = true) ∧ es.length ≤ 64
instance (es : List PE) : Decidable (okE es) := inferInstanceAs (Decidable ((∀ j, j < es.length → goodE es j = true) ∧ es.length ≤ 64))
theorem entE_get {es : List PE} {j : Nat} {e : PE} (h : es[j]? = some e) : entE es j = e := by unfold entE; simp only [List.getD, h, Option.getD_some]
theorem okE_ents {es : List PE} (h : okE es) : entsOk es := fun e he => by
  obtain ⟨j, hj, rfl⟩ := List.getElem_of_mem he
  have hg := h.1 j hj
  have he2 : entE es j = es[j] := entE_get (List.getElem?_eq_getElem hj)
  unfold goodE at hg
  rw [he2] at hg
  simp only [Bool.and_eq_true, nameOk, decide_eq_true_eq] at hg
  exact ⟨hg.1.1.2, hg.1.2⟩

theorem r_callQW {P : Program} {R : Value → World → Prop} {w : World} {f : FuncId} {args : List Value} {l : List Sh} {x : TL l} {k : TL l → World → Prop} (hc : Calls P f args.toArray w fun e w' => ∃ v, e = .returned v ∧ RP l x w v w') (h : k x w) : ((real P R).callQ f args l k : World → Prop) w :=
  ⟨x, hc.mono fun _ _ ⟨_, he, hv, hw⟩ => ⟨by rw [he, hv], hw⟩, h⟩
theorem c_l04EntryQ {w : World} {p : Addr} {a b : ByteArray} (ha : ldOk w 1 (p.add 0) .str a) (hb : ldOk w 1 (p.add 1) .str b) : Calls Tryz.prog n_spec_l04Entry [Value.pointer (some p)].toArray w fun e w' => ∃ v, e = .returned v ∧ RP [.bool] (nameOk a.size && decide (b.size ≤ 64)) w v w' := spec_l04Entry_calls _ (by
  unfold spec_l04Entry
  refine r_ldN a ha ?_
  refine r_callp (c_l04Name a) ?_
  refine r_cond (fun hn => ?_) (fun hn => ?_)
  · refine r_ldN b hb ?_
    refine r_retP ?_
    rw [hn, Bool.true_and]
    simp only [valL, embL, Sh.emb]
    congr 1
    rw [decide_eq_decide]
    omega
  · refine r_retP ?_
    rw [hn, Bool.false_and]
    rfl)

theorem c_l04Ok {w : World} {s : Sl} {es : List PE} (hs : EsR w s es) (hmax : es.length ≤ 1073741824) : Ret Tryz.prog n_spec_l04Ok [.slice s.a s.n s.c] w [.bool] (fun r _ => r = decide (okE es)) := spec_l04Ok_calls _ (by
  unfold spec_l04Ok
  have hn := hs.n
  refine r_loop (σ := Int) (fun i w' => ∃ j : Nat, i = j ∧ j ≤ es.length ∧ (∀ k, k < j → goodE es k = true) ∧ At w w' []) (fun i _ => (s.n - i).toNat) 0 rfl ⟨0, rfl, by omega, by intro k hk; omega, At.refl w⟩ ?_
  rintro i w1 ⟨j, rfl, hj, hall, h⟩
  refine r_any fun _ => ?_
  refine r_if ((j : Int) < (s.n : Int)) rfl (fun hlt => ?_) (fun hge => ?_)
  · refine r_draw h fun w2 h => ?_
    obtain ⟨e, p, he, hem, hp, hag, hl0, hl1⟩ := EsR.get (SlOf.at hs h) (i := j) (by omega)
    have hee := entE_get he
    have no_ : ∀ {v : World} {ls : List Blk}, At w v ls → goodE es j = false → ((real Tryz.prog (RR w [.bool] (fun r _ => r = decide (okE es)))).ret (.bool false) : World → Prop) v := fun h hg => r_ret h.nil false rfl (decide_eq_false fun hh => by rw [hh.1 j (by omega)] at hg; cases hg).symm
    refine r_ix p hp (by omega) (by omega) ?_
    simp only [Int.toNat_natCast]
    refine r_callQW (c_l04EntryQ hl0 hl1) ?_
    by_cases hv : (nameOk e.1.size && decide (e.2.size ≤ 64)) = true
    · refine r_false (by rw [hv]; rfl) ?_
      refine r_if ((j : Int) > 0) rfl (fun hpos => ?_) (fun hz => ?_)
      · obtain ⟨e2, p2, he2, _, hp2, _, hl2, _⟩ := EsR.get (SlOf.at hs h) (i := j - 1) (by omega)
        have hee2 := entE_get he2
        rw [hp] at hp2
        cases hp2
        rw [w64 (n := (j : Int) - 1) (by omega) (by omega)]
        refine r_ix p hp (by omega) (by omega) ?_
        rw [show ((j : Int) - 1).toNat = j - 1 by omega]
        refine r_ldN (sh := .str) e2.1 hl2 ?_
        refine r_ix p hp (by omega) (by omega) ?_
        simp only [Int.toNat_natCast]
        refine r_ldN (sh := .str) e.1 hl0 ?_
        have hgj : goodE es j = Op.bytesLess e2.1.toList e.1.toList := by
          unfold goodE
          rw [hee, hee2, hv, Bool.true_and, decide_eq_false (show ¬ j = 0 by omega), Bool.false_or]
        refine r_pur _ (fun w' => run_geq_str _ _ _ _ _ w') ?_
        by_cases hb : Op.bytesLess e2.1.toList e.1.toList = true
        · refine r_false (by rw [hb]; rfl) ?_
          refine ⟨((j + 1 : Nat) : Int), by rw [w64 (by omega) (by omega)]; rfl, ⟨j + 1, rfl, by omega, fun k hk => ?_, h.nil⟩, by omega⟩
          by_cases hkj : k = j
          · subst hkj; rw [hgj]; exact hb
          · exact hall k (by omega)
        · have hb' : Op.bytesLess e2.1.toList e.1.toList = false := by simpa using hb
          refine r_true (by rw [hb']; rfl) ?_
          exact no_ h (by rw [hgj]; exact hb')
      · have hj0 : j = 0 := by omega
        subst hj0
        have hgj : goodE es 0 = true := by
          unfold goodE
          rw [hee, hv]
          rfl
        exact ⟨((0 + 1 : Nat) : Int), by rw [w64 (by omega) (by omega)]; rfl, ⟨0 + 1, rfl, by omega, fun k hk => by rw [show k = 0 by omega]; exact hgj, h.nil⟩, by omega⟩
    · have hv' : (nameOk e.1.size && decide (e.2.size ≤ 64)) = false := by simpa using hv
      have hgj : goodE es j = false := by
        unfold goodE
        rw [hee, hv']
        rfl
      refine r_true (by rw [hv']; rfl) ?_
      exact no_ h hgj
  · have hjl : j = es.length := by omega
    subst hjl
    refine r_ret h _ rfl ?_
    rw [decide_eq_decide, hn]
    exact ⟨fun hh => ⟨hall, by omega⟩, fun hh => by have := hh.2; omega⟩)

theorem ndC_lk {n : ND} (h : n.ok) {k : Nat} (hk : k < 32) : (ndC n).toArray[k]? = some (.int .u8 (n.l.getD k 0)) := by
  have e : (u8s n.l).length = 32 := by rw [u8s_len]; exact h.l.1
  unfold ndC
  rw [List.getElem?_toArray, List.getElem?_append_left (by omega)]
  exact u8s_get (by rw [h.l.1]; exact hk)
theorem ndC_rk {n : ND} (h : n.ok) {k : Nat} (hk : k < 32) : (ndC n).toArray[32 + k]? = some (.int .u8 (n.r.getD k 0)) := by
  have e : (u8s n.l).length = 32 := by rw [u8s_len]; exact h.l.1
  have e2 : (u8s n.r).length = 32 := by rw [u8s_len]; exact h.r.1
  unfold ndC
  rw [List.getElem?_toArray, List.getElem?_append_right (by omega), e, Nat.add_sub_cancel_left, List.getElem?_append_left (by omega)]
  exact u8s_get (by rw [h.r.1]; exact hk)
theorem snoc_u8' {a : List Int} {k : Nat} (h : k < a.length) : u8s (a.take k) ++ [Value.int .u8 (a.getD k 0)] = u8s (a.take (k + 1)) := by
  rw [List.take_add_one, u8s_append]
  simp [List.getElem?_eq_getElem h, List.getD, u8s]
theorem c_l04Bytes {w : World} {p : Addr} {n : ND} (hn : n.ok) (hld : ldOk w 66 p .agg (ndC n).toArray) : Ret Tryz.prog n_spec_l04Bytes [.pointer (some p)] w [.slice] (fun r w' => SlO w w' [] ty_uint8 1 r (u8s (ndB n)) ∧ r.n = (ndB n).length) := spec_l04Bytes_calls _ (by
  unfold spec_l04Bytes
  have hk1 := hn.l.1
  have hk2 := hn.r.1
  have hnm := hn.name
  have hvl := hn.value
  refine r_bs0 T_sl_uint8' (At.refl w) fun y w1 hy hyn => ?_
  refine r_loop (σ := Sl × Int) (fun i w' => ∃ k : Nat, i.2 = k ∧ k ≤ 32 ∧ SlO w w' [] ty_uint8 1 i.1 (u8s (n.l.take k)) ∧ i.1.n = k) (fun i _ => (32 - i.2).toNat) (y, 0) rfl ⟨0, rfl, by omega, by simpa [u8s] using hy, hyn⟩ ?_
  clear hy hyn
  rintro ⟨s3, i⟩ w9 ⟨k, hi, hk, h, hsn⟩
  dsimp only at hi h hsn
  subst hi
  refine r_any fun _ => ?_
  dsimp only
  refine r_if ((k : Int) < 32) rfl (fun hlt => ?_) (fun hge => ?_)
  · refine r_ix _ rfl (by omega) (by omega) ?_
    refine r_ldN (sh := .int .u8) (n.l.getD k 0) (by
      rw [Go.Deep.add_add]
      simp only [Int.toNat_natCast, Nat.zero_add, Nat.mul_one]
      exact ldOk_below h.at_.below (ldOk_fld hld k (ndC_lk hn (by omega)) (by simp [Sh.emb]))) ?_
    refine r_push T_sl_uint8' h rfl (by omega) (by simp [Value.cells, oneC]) (by omega) (by omega) fun s2 w6 h6 hn6 => ?_
    exact ⟨(s2, ((k + 1 : Nat) : Int)), by rw [w64 (by omega) (by omega)]; rfl, ⟨k + 1, rfl, by omega, by rw [← snoc_u8' (by omega)]; simpa [Value.cells] using h6, by dsimp only; omega⟩, by dsimp only; omega⟩
  have hk32 : k = 32 := by omega
  subst hk32
  rw [List.take_of_length_le (by omega)] at h
  refine r_loop (σ := Sl × Int) (fun i w' => ∃ k : Nat, i.2 = k ∧ k ≤ 32 ∧ SlO w w' [] ty_uint8 1 i.1 (u8s (n.l ++ n.r.take k)) ∧ i.1.n = 32 + k) (fun i _ => (32 - i.2).toNat) (s3, 0) rfl ⟨0, rfl, by omega, by simpa using h, by dsimp only; omega⟩ ?_
  clear h
  rintro ⟨s4, i⟩ w10 ⟨k, hi, hk, h, hsn⟩
  dsimp only at hi h hsn
  subst hi
  refine r_any fun _ => ?_
  dsimp only
  refine r_if ((k : Int) < 32) rfl (fun hlt => ?_) (fun hge => ?_)
  · refine r_ix _ rfl (by omega) (by omega) ?_
    refine r_ldN (sh := .int .u8) (n.r.getD k 0) (by
      rw [Go.Deep.add_add]
      simp only [Int.toNat_natCast, Nat.mul_one]
      exact ldOk_below h.at_.below (ldOk_fld hld (32 + k) (ndC_rk hn (by omega)) (by simp [Sh.emb]))) ?_
    refine r_push T_sl_uint8' h rfl (by omega) (by simp [Value.cells, oneC]) (by omega) (by omega) fun s2 w6 h6 hn6 => ?_
    exact ⟨(s2, ((k + 1 : Nat) : Int)), by rw [w64 (by omega) (by omega)]; rfl, ⟨k + 1, rfl, by omega, by dsimp only; rw [show u8s (n.l ++ n.r.take (k + 1)) = u8s (n.l ++ n.r.take k) ++ [Value.int .u8 (n.r.getD k 0)] by rw [u8s_append, ← snoc_u8' (by omega), u8s_append, List.append_assoc]]; simpa [Value.cells] using h6, by dsimp only; omega⟩, by dsimp only; omega⟩
  have hk32 : k = 32 := by omega
  subst hk32
  rw [List.take_of_length_le (by omega)] at h
  have q0 : ∀ {v : World} {ls : List Blk}, At w v ls → ldOk v 1 ((p.add 64).add 0) .str n.e.1 := fun h => by
    rw [Go.Deep.add_add]
    exact ldOk_below h.below (ldOk_fld hld 64 (by rw [List.getElem?_toArray]; exact ndC_name hn) (by simp [Sh.emb]))
  have q1 : ∀ {v : World} {ls : List Blk}, At w v ls → ldOk v 1 ((p.add 64).add 1) .str n.e.2 := fun h => by
    rw [Go.Deep.add_add]
    exact ldOk_below h.below (ldOk_fld hld 65 (by rw [List.getElem?_toArray]; exact ndC_value hn) (by simp [Sh.emb]))
  refine r_ldN (sh := .str) n.e.1 (q0 h.at_) ?_
  have wr : IntKind.wrap .u8 (n.e.1.size : Int) = (n.e.1.size : Int) := by rw [wrapu8]; omega
  rw [wr]
  refine r_push T_sl_uint8' h rfl (by omega) (by simp [Value.cells, oneC]) (by omega) (by omega) fun y42 w11 h hn42 => ?_
  refine r_ldN (sh := .str) n.e.1 (q0 h.at_) ?_
  refine r_cvB (src := ty_string) (dst := ty_sl_uint8) (e := ty_uint8) (by kernel_rfl) (by kernel_rfl) (by kernel_rfl) fun y49 w12 hb12 h49 hn49 => ?_
  have h := h.trans hb12
  refine r_append T_sl_uint8' h h49 u8s_one (by omega) (by omega) fun y50 w13 h hn50 => ?_
  refine r_ldN (sh := .str) n.e.2 (q1 h.at_) ?_
  refine r_cvB (src := ty_string) (dst := ty_sl_uint8) (e := ty_uint8) (by kernel_rfl) (by kernel_rfl) (by kernel_rfl) fun y57 w14 hb14 h57 hn57 => ?_
  have h := h.trans hb14
  refine r_append T_sl_uint8' h h57 u8s_one (by omega) (by omega) fun y58 w15 h hn58 => ?_
  have hlen := ndB_len hn
  refine r_ret h.at_ y58 rfl ⟨?_, by rw [hlen]; omega⟩
  have e : u8s (ndB n) = u8s (n.l ++ n.r) ++ (Value.int .u8 (n.e.1.size : Int)).cells.toList ++ u8s (strL n.e.1) ++ u8s (strL n.e.2) := by
    unfold ndB
    simp [u8s, Value.cells]
  rw [e]
  exact h)
theorem c_l04NodeKey {w : World} {p : Addr} {n : ND} (hn : n.ok) (hld : ldOk w 66 p .agg (ndC n).toArray) : Ret Tryz.prog n_spec_l04NodeKey [.pointer (some p)] w [.agg] (fun r _ => r = (u8s (hashL 5 (ndB n))).toArray) := spec_l04NodeKey_calls _ (by
  unfold spec_l04NodeKey
  have hlen := ndB_len hn
  have hnm := hn.name
  have hvl := hn.value
  refine r_new (At.refl w) fun b2 w1 h => ?_
  refine r_call h (c_l04Bytes hn (ldOk_below h.below hld)) fun r4 w2 _ _ ⟨hS, _⟩ => ?_
  have hS := SlO.lift h hS
  refine r_call hS.at_ (c_l01Hash 5 hS.sl (ndB_ok hn) (by omega)) fun r5 w3 h _ hr => ?_
  subst hr
  refine r_stA h 0 rfl rfl (by simp [hashL_len]) (by simp [Value.cells]) (by simpa using u8s_one) fun w4 h => ?_
  refine r_ldA h 0 rfl rfl (by simp [hashL_len]) ?_
  exact r_ret h _ rfl rfl)
theorem c_l04Priority {s : ByteArray} (hs : s.size ≤ 1000) (w : World) : Ret Tryz.prog n_spec_l04Priority [.string s] w [.agg] (fun r _ => r = (u8s (hashL 4 (strL s))).toArray) := spec_l04Priority_calls _ (by
  unfold spec_l04Priority
  refine r_new (At.refl w) fun b2 w1 h => ?_
  refine r_cvB (src := ty_string) (dst := ty_sl_uint8) (e := ty_uint8) (by kernel_rfl) (by kernel_rfl) (by kernel_rfl) fun y4 w2 hb2 h4 _ => ?_
  have h := h.trans hb2
  refine r_call h (c_l01Hash 4 h4 (strL_ok _) (by rw [strL_len]; omega)) fun r5 w3 h _ hr => ?_
  subst hr
  refine r_stA h 0 rfl rfl (by simp [hashL_len]) (by simp [Value.cells]) (by simpa using u8s_one) fun w4 h => ?_
  refine r_ldA h 0 rfl rfl (by simp [hashL_len]) ?_
  exact r_ret h _ rfl rfl)
theorem prios_get {es : List PE} {j : Nat} {e : PE} (h : es[j]? = some e) : (es.map prio).getD j [] = prio e := by simp only [List.getD, List.getElem?_map, h, Option.map_some, Option.getD_some]
theorem c_l04Top {w : World} {s : Sl} {es : List PE} (hs : EsR w s es) (heo : entsOk es) (hm : es.length ≤ 1000) (hne : es.length ≠ 0) : Ret Tryz.prog n_spec_l04Top [.slice s.a s.n s.c] w [.int .i64] (fun r _ => r = (topE es : Nat)) := spec_l04Top_calls _ (by
  unfold spec_l04Top
  have hn := hs.n
  obtain ⟨e0, p, he0, hem0, hp, _, hl0, _⟩ := EsR.get hs (i := 0) (by omega)
  refine r_ix p hp (by omega) (by omega) ?_
  refine r_ldN (sh := .str) e0.1 hl0 ?_
  refine r_call (At.refl w) (c_l04Priority (by have := (heo e0 hem0).1; omega) _) fun r11 w1 h _ hr => ?_
  subst hr
  rw [show hashL 4 (strL e0.1) = prio e0 from rfl]
  have hk0 := prio_ok e0
  refine r_new h fun b4 w2 h => ?_
  refine r_stA h 0 rfl rfl (by simp [hk0.1]) (by simp [Value.cells]) (by simpa using u8s_one) fun w3 h => ?_
  have h : At w w3 [(b4, (u8s (prio e0)).toArray, ty_impl_Key)] := h
  have t1 : topAt (es.map prio) 1 = 0 := by rw [topAt_succ]; split <;> rfl
  refine r_loop (σ := Int × Int) (fun i w' => ∃ j : Nat, i.2 = j ∧ 1 ≤ j ∧ j ≤ es.length ∧ i.1 = (topAt (es.map prio) j : Nat) ∧ At w w' [(b4, (u8s ((es.map prio).getD (topAt (es.map prio) j) [])).toArray, ty_impl_Key)]) (fun i _ => (s.n - i.2).toNat) (0, 1) rfl
    ⟨1, rfl, by omega, by omega, by rw [t1]; rfl, by rw [t1, prios_get he0]; exact h⟩ ?_
  clear h
  rintro ⟨top, i⟩ w4 ⟨j, hi, hj1, hj, htop, h⟩
  dsimp only at hi htop
  subst hi
  subst htop
  refine r_any fun _ => ?_
  dsimp only
  have htj : topAt (es.map prio) j < es.length := by
    obtain ⟨k, rfl⟩ : ∃ k, j = k + 1 := ⟨j - 1, by omega⟩
    have := topAt_le (es.map prio) k
    omega
  have hgt : (es.map prio).getD (topAt (es.map prio) j) [] = prio es[topAt (es.map prio) j] := prios_get (List.getElem?_eq_getElem htj)
  rw [hgt] at h
  have hkt := prio_ok es[topAt (es.map prio) j]
  generalize prio es[topAt (es.map prio) j] = kt at hgt h hkt
  refine r_if ((j : Int) < (s.n : Int)) rfl (fun hlt => ?_) (fun hge => ?_)
  · obtain ⟨e, p', he, hem, hp', _, hl, _⟩ := EsR.get (SlOf.at hs h) (i := j) (by omega)
    rw [hp] at hp'
    cases hp'
    refine r_ix p hp (by omega) (by omega) ?_
    simp only [Int.toNat_natCast]
    refine r_ldN (sh := .str) e.1 hl ?_
    refine r_call h (c_l04Priority (by have := (heo e hem).1; omega) _) fun r23 w5 h _ hr => ?_
    subst hr
    rw [show hashL 4 (strL e.1) = prio e from rfl]
    have hke := prio_ok e
    have ht := topAt_succ (es.map prio) j
    rw [prios_get he, hgt] at ht
    have hge : (es.map prio).getD j [] = prio e := prios_get he
    generalize prio e = ke at hke ht hge ⊢
    refine r_new h fun b6 w6 h => ?_
    refine r_stA h 0 rfl rfl (by simp [hke.1]) (by simp [Value.cells]) (by simpa using u8s_one) fun w7 h => ?_
    have h : At w w7 [(b6, (u8s ke).toArray, ty_impl_Key), (b4, (u8s kt).toArray, ty_impl_Key)] := h
    refine r_ldA h 0 rfl rfl (by simp [hke.1]) ?_
    refine r_ldA h 1 rfl rfl (by simp [hkt.1]) ?_
    refine r_call h (c_l01Compare hke.1 hkt.1 _) fun r26 w8 h _ hr => ?_
    subst hr
    refine r_if (cmpL ke kt > 0) rfl (fun hgt2 => ?_) (fun hle => ?_)
    · rw [if_pos hgt2] at ht
      refine r_ldA h 0 rfl rfl (by simp [hke.1]) ?_
      refine r_stA h 1 rfl rfl (by simp [hke.1]) (by simp [hkt.1]) (by simpa using u8s_one) fun w9 h => ?_
      have h : At w w9 [(b6, (u8s ke).toArray, ty_impl_Key), (b4, (u8s ke).toArray, ty_impl_Key)] := h
      exact ⟨((j : Int), ((j + 1 : Nat) : Int)), by rw [w64 (by omega) (by omega)]; rfl, ⟨j + 1, rfl, by omega, by omega, by rw [ht], by rw [ht, hge]; exact h.tail⟩, by dsimp only; omega⟩
    · rw [if_neg hle] at ht
      exact ⟨((topAt (es.map prio) j : Nat), ((j + 1 : Nat) : Int)), by rw [w64 (by omega) (by omega)]; rfl, ⟨j + 1, rfl, by omega, by omega, by rw [ht], by rw [ht, hgt]; exact h.tail⟩, by dsimp only; omega⟩
  · have hjl : j = es.length := by omega
    subst hjl
    exact r_ret h.nil _ rfl rfl)

theorem c_l04Nodes : ∀ (f : Nat) {w : World} {s : Sl} {es : List PE}, EsR w s es → entsOk es → es.length < f → es.length ≤ 1000 → Ret Tryz.prog n_spec_l04Nodes [.slice s.a s.n s.c] w [.slice, .agg] (fun r w' => ∃ L, At w w' (L ++ []) ∧ OwnS ty_impl_MapNode 66 r.1 ((trNodes (treeF f es)).flatMap ndC) L ∧ r.1.n = (trNodes (treeF f es)).length ∧ r.2 = (u8s (trKey (treeF f es))).toArray)
  | 0, _, _, _, _, _, h, _ => by omega
  | f + 1, w, s, es, hs, heo, hf, hm => spec_l04Nodes_calls _ (by
    unfold spec_l04Nodes
    have hn := hs.n
    have hcap := hs.cap
    have hlen := treeF_len (f + 1) es
    generalize hT : treeF (f + 1) es = T at hlen
    rw [treeF_succ] at hT
    refine r_new (At.refl w) fun b3 w1 h => ?_
    have h : At w w1 [(b3, Array.replicate 32 (.int .u8 0), ty_impl_Key)] := h
    refine r_eq (fun h0 => ?_) (fun h0 => ?_)
    · rw [if_pos (by omega)] at hT
      subst hT
      refine r_bs0 T_sl_ND h fun y14 w2 hy hyn => ?_
      obtain ⟨L, hO, h⟩ := hy.split
      refine r_call h (c_l04Empty _) fun r15 w3 h _ hr => ?_
      subst hr
      have h : At w w3 ([(b3, Array.replicate 32 (.int .u8 0), ty_impl_Key)] ++ (L ++ [])) := At.pl1 (V := L) (G1 := [_]) (X := []) h
      refine r_stA h 0 rfl rfl (by simp [emptyKey_ok.1]) (by simp) (by simpa using u8s_one) fun w4 h => ?_
      refine r_ldA h 0 rfl rfl (by simp [emptyKey_ok.1]) ?_
      have h : At w w4 ([(b3, (u8s emptyKey).toArray, ty_impl_Key)] ++ (L ++ [])) := h
      exact r_ret h.nil (y14, _) rfl ⟨L, h.right, hO, hyn, rfl⟩
    have hne : es.length ≠ 0 := by omega
    have htl := topE_lt hne
    rw [if_neg hne] at hT
    refine r_call h (c_l04Top (SlOf.at hs h) heo hm hne) fun r17 w2 h _ hr => ?_
    subst hr
    refine r_sl 0 (topE es) rfl rfl (by omega) (by omega) ?_
    have a1 := EsR.sub (SlOf.at hs h) 0 (topE es) (by omega) (by omega)
    rw [List.drop_zero, Nat.sub_zero] at a1
    have l1 := treeF_len f (es.take (topE es))
    have l2 := treeF_len f (es.drop (topE es + 1))
    rw [List.length_take] at l1
    rw [List.length_drop] at l2
    have kk1 := trKey_ok (treeF f (es.take (topE es)))
    have kk2 := trKey_ok (treeF f (es.drop (topE es + 1)))
    refine r_call h (c_l04Nodes f a1 (fun e hx => heo e (List.mem_of_mem_take hx)) (by rw [List.length_take]; omega) (by rw [List.length_take]; omega)) fun r22 w3 _ _ ⟨L1, hL1, hO1, hn1, hr1⟩ => ?_
    have h : At w w3 (L1 ++ [(b3, Array.replicate 32 (.int .u8 0), ty_impl_Key)]) := by simpa using h.join hL1
    generalize treeF f (es.take (topE es)) = T1 at hT l1 kk1 hO1 hn1 hr1
    rw [hr1]
    refine r_new h fun b6 w4 h => ?_
    refine r_stA h 0 rfl rfl (by simp [kk1.1]) (by simp [Value.cells]) (by simpa using u8s_one) fun w5 h => ?_
    rw [w64 (n := (topE es : Int) + 1) (by omega) (by omega)]
    refine r_sl (topE es + 1) s.n rfl rfl (by omega) (by omega) ?_
    have a3 := EsR.sub (SlOf.at hs h) (topE es + 1) s.n (by omega) (by omega)
    rw [List.take_of_length_le (by rw [List.length_drop]; omega)] at a3
    refine r_call h (c_l04Nodes f a3 (fun e hx => heo e (List.mem_of_mem_drop hx)) (by rw [List.length_drop]; omega) (by rw [List.length_drop]; omega)) fun r30 w6 _ _ ⟨L2, hL2, hO2, hn2, hr2⟩ => ?_
    have h : At w w6 (L2 ++ ([(b6, (u8s (trKey T1)).toArray, ty_impl_Key)] ++ (L1 ++ [(b3, Array.replicate 32 (.int .u8 0), ty_impl_Key)]))) := by simpa using h.join hL2
    generalize treeF f (es.drop (topE es + 1)) = T2 at hT l2 kk2 hO2 hn2 hr2
    rw [hr2]
    refine r_new h fun b8 w7 h => ?_
    refine r_stA h 0 rfl rfl (by simp [kk2.1]) (by simp [Value.cells]) (by simpa using u8s_one) fun w8 h => ?_
    have h : At w w8 ([(b8, (u8s (trKey T2)).toArray, ty_impl_Key)] ++ (L2 ++ ([(b6, (u8s (trKey T1)).toArray, ty_impl_Key)] ++ (L1 ++ [(b3, Array.replicate 32 (.int .u8 0), ty_impl_Key)])))) := h
    refine r_joinI ?_
    refine r_draw h fun w9 h => ?_
    refine r_ldA h.pl2 0 rfl rfl (by simp [kk1.1]) ?_
    refine r_ldA h 0 rfl rfl (by simp [kk2.1]) ?_
    obtain ⟨e, p, he, hem, hpa, hag, _, _⟩ := EsR.get hs (i := topE es) htl
    rw [entE_get he] at hT
    have heok := heo e hem
    refine r_ix p hpa (by omega) (by omega) ?_
    simp only [Int.toNat_natCast]
    refine r_ldN (entC e).toArray (ldOk_below h.below hag) ?_
    refine r_pur (sh := .agg) _ (run_mkND kk1 kk2 e) ?_
    have hok : (⟨trKey T1, trKey T2, e⟩ : ND).ok := ⟨kk1, kk2, heok.1, heok.2⟩
    have hnl := ndC_len hok
    refine r_new h fun b9 w10 h => ?_
    have h : At w w10 ([(b9, zeroNode, ty_impl_MapNode)] ++ ([(b8, (u8s (trKey T2)).toArray, ty_impl_Key)] ++ (L2 ++ ([(b6, (u8s (trKey T1)).toArray, ty_impl_Key)] ++ (L1 ++ [(b3, Array.replicate 32 (.int .u8 0), ty_impl_Key)]))))) := h
    refine r_chk3 (ldOk_below h.below hag) (ldOk_blk h.pl1 0 rfl (by simp [kk2.1])) (ldOk_blk h.pl3 0 rfl (by simp [kk1.1])) ?_
    refine r_stA h 0 rfl rfl (by simpa using hnl) rfl (by simpa using ndC_one _) fun w11 h => ?_
    generalize hnd : (⟨trKey T1, trKey T2, e⟩ : ND) = nd at hT hok hnl h
    have h : At w w11 ([(b9, (ndC nd).toArray, ty_impl_MapNode), (b8, (u8s (trKey T2)).toArray, ty_impl_Key)] ++ (L2 ++ ([(b6, (u8s (trKey T1)).toArray, ty_impl_Key)] ++ (L1 ++ ([(b3, Array.replicate 32 (.int .u8 0), ty_impl_Key)] ++ []))))) := by simpa using h
    refine ⟨(⟨b9, 0, none⟩ : Addr), rfl, ?_⟩
    refine r_any fun _ => ?_
    refine r_ldA h 0 rfl rfl (by simpa using hnl) ?_
    refine r_bs1 T_sl_ND h (by simpa [Value.cells] using hnl) (by omega) fun y41 w12 hy hyn => ?_
    rw [show (Value.agg (ndC nd).toArray).cells.toList = ndC nd by simp [Value.cells]] at hy
    have s1 : SlAt w12 r22.1 66 ((trNodes T1).flatMap ndC) := by
      obtain ⟨Ly, _, h2⟩ := hy.split
      have h2 : At w w12 (Ly ++ ([(b9, (ndC nd).toArray, ty_impl_MapNode), (b8, (u8s (trKey T2)).toArray, ty_impl_Key)] ++ (L2 ++ ([(b6, (u8s (trKey T1)).toArray, ty_impl_Key)] ++ (L1 ++ ([(b3, Array.replicate 32 (.int .u8 0), ty_impl_Key)] ++ [])))))) := h2
      exact hO1.sl h2.pl4 (List.sublist_append_left _ _)
    refine r_append T_sl_ND hy s1 (ndCs_one _) (by omega) (by omega) fun y43 w13 hy3 hn43 => ?_
    have s2 : SlAt w13 r30.1 66 ((trNodes T2).flatMap ndC) := by
      obtain ⟨Ly, _, h2⟩ := hy3.split
      have h2 : At w w13 (Ly ++ ([(b9, (ndC nd).toArray, ty_impl_MapNode), (b8, (u8s (trKey T2)).toArray, ty_impl_Key)] ++ (L2 ++ ([(b6, (u8s (trKey T1)).toArray, ty_impl_Key)] ++ (L1 ++ ([(b3, Array.replicate 32 (.int .u8 0), ty_impl_Key)] ++ [])))))) := h2
      exact hO2.sl h2.pl2 (List.sublist_append_left _ _)
    refine r_append T_sl_ND hy3 s2 (ndCs_one _) (by omega) (by omega) fun y46 w14 hy6 hn46 => ?_
    obtain ⟨L46, hO46, h⟩ := hy6.split
    have h : At w w14 (L46 ++ ([(b9, (ndC nd).toArray, ty_impl_MapNode), (b8, (u8s (trKey T2)).toArray, ty_impl_Key)] ++ (L2 ++ ([(b6, (u8s (trKey T1)).toArray, ty_impl_Key)] ++ (L1 ++ ([(b3, Array.replicate 32 (.int .u8 0), ty_impl_Key)] ++ [])))))) := h
    refine r_call h (c_l04NodeKey hok (ldOk_blk h.pl1 0 rfl (by simpa using hnl))) fun r47 w15 h _ hr => ?_
    subst hr
    have h := h.pl5
    refine r_stA h 0 rfl rfl (by simp [hashL_len]) (by simp) (by simpa using u8s_one) fun w16 h => ?_
    refine r_ldA h 0 rfl rfl (by simp [hashL_len]) ?_
    have h : At w w16 ([(b3, (u8s (hashL 5 (ndB nd))).toArray, ty_impl_Key)] ++ (L46 ++ ([(b9, (ndC nd).toArray, ty_impl_MapNode), (b8, (u8s (trKey T2)).toArray, ty_impl_Key)] ++ (L2 ++ ([(b6, (u8s (trKey T1)).toArray, ty_impl_Key)] ++ (L1 ++ [])))))) := h
    subst hT
    refine r_ret h.nil (y46, _) rfl ⟨L46, by simpa using h.right.left, ?_, ?_, rfl⟩
    · unfold trNodes
      rw [List.flatMap_append, List.flatMap_append, List.flatMap_singleton, ← List.append_assoc]
      exact hO46
    · have : (trNodes (.node nd T1 T2)).length = 1 + ((trNodes T1).length + (trNodes T2).length) := by simp [trNodes]; omega
      rw [this]
      show y46.n = _
      omega)
end Go.Proofs.YtkifkdkjljcclaaGreat
