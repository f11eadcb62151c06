/- The laws' own source: entries, maps, chunks. StoreList: what is answered, and the program. -/
import Derived.Test.YtkifkdkjljcclaaGreatPkLTor25
import Derived.Test.YtkifkdkjljcclaaGreatPkLTor21
import Derived.Test.YtkifkdkjljcclaaGreatPkLTor19
namespace Go.Sx
open Go.RowKit (Below)
variable {P : Program} {R : Value → World → Prop} {w0 w : World} {ls : List Blk}
theorem r_pushK {t ty e z by_ : Nat} (hT : SlT P t e z by_) {v : Value} {s : Sl} {xs : List Value} {k : Sl → World → Prop} (hS : SlO w0 w ls e z s xs) (hv : v.cells.size = z) (hz : z ≤ 16777216) (h1 : ∀ u ∈ v.cells.toList, oneC u = true)
    (hbytes : (s.n + 1) * by_ ≤ 140737488355328) (hmax : s.n + 1 ≤ 140737488355328) (h : ∀ s' w', SlO w0 w' ls e z s' (xs ++ v.cells.toList) → s'.n = s.n + 1 → Keeps w w' → k s' w') :
    ((real P R).sem (Instr.buildSlice t 1 #[(0, v)]) .slice fun y => (real P R).sem (Builtin.append_ #[t, t] ty #[.slice s.a s.n s.c, .slice y.a y.n y.c]) .slice k : World → Prop) w := by
  refine ⟨⟨some ⟨w.heap.size, 0, none⟩, 1, 1⟩, _, run_bs1 hT hv hz w, ?_⟩
  have hb := below_alloc w (.cells v.cells e)
  refine r_appendK hT (hS.trans hb) (y := ⟨some ⟨w.heap.size, 0, none⟩, 1, 1⟩) (news := v.cells.toList) ⟨by simp [hv], fun j u hu => ⟨_, rfl, ?_⟩⟩ h1 hbytes hmax fun s' w' a b c => h s' w' a b ((Keeps.of hb).trans c)
  rw [add_lit, cell_of_row _ _ _ _ _ _ (heap_alloc_self w _)]
  simpa using hu
end Go.Sx
namespace Go.Proofs.YtkifkdkjljcclaaGreat
open Go.Sx Go.RowKit

def KStr (v : World) (y : Sl) (d : List Int) : Prop := bytesOk d ∧ y.n ≤ y.c ∧ ∃ (g : Nat) (o : Obj), v.heap[g]? = some o ∧ (∀ c e, o ≠ .cells c e (0, 0)) ∧ ∀ u : World, u.heap[g]? = some o → SlAt u y 1 (u8s d)
theorem KStr.keep {v v' : World} {y : Sl} {d : List Int} (h : KStr v y d) (hk : Keeps v v') : KStr v' y d := let ⟨h1, h2, g, o, h3, h4, h5⟩ := h; ⟨h1, h2, g, o, hk g o h3 h4, h4, h5⟩
theorem KStr.bsl {v : World} {y : Sl} {d : List Int} (h : KStr v y d) : BSl v y d := let ⟨h1, h2, _, _, h3, _, h5⟩ := h; ⟨h5 v h3, h1, h2⟩
theorem r_cvK {R : Value → World → Prop} {w : World} {s : ByteArray} {k : Sl → World → Prop} (h : ∀ y w', Below w.heap.size w w' → KStr w' y (strL s) → k y w') : ((real Tryz.prog R).sem (convert ty_string ty_sl_uint8 (.string s)) .slice k : World → Prop) w := by
  have e : u8s (strL s) = s.data.toList.map fun b => Value.int .u8 b.toNat := by unfold u8s strL; rw [List.map_map]; rfl
  refine ⟨⟨some ⟨w.heap.size, 0, none⟩, s.size, grownCap w s.size 0 ty_uint8⟩, _, run_bytes_of_string w ty_string ty_sl_uint8 ty_uint8 s (by kernel_rfl) (by kernel_rfl) (by kernel_rfl), h _ _ ((drew_below w).trans ((below_alloc w.drew _).mono (Nat.le_refl _))) ⟨strL_ok s, grownCap_ge w s.size 0 ty_uint8, w.heap.size, (.cells (bytesRow s (grownCap w s.size 0 ty_uint8)) ty_uint8 ((bytesRow s (grownCap w s.size 0 ty_uint8)).size, (bytesRow s (grownCap w s.size 0 ty_uint8)).size + 1)), heap_alloc_self w.drew _, fun c e' hh => ?_, fun v hv => ⟨by simp [strL_len], fun j x hx => ⟨_, rfl, ?_⟩⟩⟩⟩
  · injection hh with _ _ h3
    injection h3 with _ h5
    omega
  · rw [e] at hx
    rw [add_lit, Nat.zero_add]
    have hj : j < s.data.size := by
      have := (List.getElem?_eq_some_iff.1 hx).1
      simpa using this
    have h1 := bytesRow_at s (grownCap w s.size 0 ty_uint8) j hj
    simp only [World.cell?, hv, Option.isSome_none, Bool.false_eq_true, if_false]
    rw [h1, ← hx, List.getElem?_map, List.getElem?_eq_getElem (by simpa using hj)]
    simp

theorem run_geq_ltN (t : TypeId) (x y : Operand) (a b : ByteArray) (w : World) : (eqB .geq t x y (.string a) (.string b)).run Tryz.prog w = .ok (.bool (!ltN a b)) w := by
  unfold ltN
  simp [eqB, eqGuard, binOp, Op.stringOp]
theorem c_l04Put {w : World} {s : Sl} {es : List PE} (hs : EsR w s es) (e : PE) (hl : es.length ≤ 100) : Ret Tryz.prog n_spec_l04Put [.slice s.a s.n s.c, .agg (entC e).toArray] w [.slice] (fun r w' => ∃ es' : List PE, SlO w w' [] ty_impl_Entry 2 r (es'.flatMap entC) ∧ es'.length ≤ es.length + 1 ∧ ∀ x ∈ es', x ∈ es ∨ x = e) := spec_l04Put_calls _ _ (by
  unfold spec_l04Put
  have hsn := SlOf.n hs
  refine r_new (At.refl w) fun b3 w1 h => ?_
  have h : At w w1 ([(b3, (entC e).toArray, ty_impl_Entry)] ++ []) := h
  have ln_ : ∀ {v : World} {X : List Blk}, At w v ([(b3, (entC e).toArray, ty_impl_Entry)] ++ X) → ldOk v 1 ((⟨b3, 0, none⟩ : Addr).add 0) .str e.1 := fun h => ldOk_own (sh := .str) h 0 rfl 0 rfl (by simp [Sh.emb])
  refine r_bs0 T_sl_Entry h fun y8 w2 hy hyn => ?_
  refine r_loop (σ := Sl × Bool × Int) (fun st w' => ∃ (j : Nat) (out : List PE), st.2.2 = j ∧ j ≤ es.length ∧ SlO w w' ([(b3, (entC e).toArray, ty_impl_Entry)] ++ []) ty_impl_Entry 2 st.1 (out.flatMap entC) ∧ st.1.n = out.length ∧ out.length ≤ j + (if st.2.1 = true then 1 else 0) ∧ ∀ x ∈ out, x ∈ es ∨ x = e) (fun st _ => (s.n - st.2.2).toNat) (y8, false, 0) rfl
    ⟨0, [], rfl, by omega, by simpa using hy, by simpa using hyn, by simp, by simp⟩ ?_
  clear h hy hyn
  rintro ⟨so, dn, j⟩ w3 ⟨j, out, hj0, hj, hS, hson, hol, hin⟩
  dsimp only at hj0 hS hson hol
  subst hj0
  refine r_any fun _ => ?_
  dsimp only
  refine r_if ((j : Int) < (s.n : Int)) rfl (fun hlt => ?_) (fun hge => ?_)
  · have hej : es[j]? = some es[j] := List.getElem?_eq_getElem (by omega)
    have hem := List.getElem_mem (show j < es.length by omega)
    generalize es[j] = f at hej hem
    have le_ : ∀ {v : World} {X : List Blk}, At w v X → ∃ p, s.a = some p ∧ ldOk v 2 (p.add (j * 2)) .agg (entC f).toArray ∧ ldOk v 1 ((p.add (j * 2)).add 0) .str f.1 := fun h => by
      obtain ⟨e2, p, he2, _, hp, ha, hl0, _⟩ := EsR.get (SlOf.at hs h) (i := j) (by omega)
      rw [hej] at he2
      cases he2
      exact ⟨p, hp, ha, hl0⟩
    refine r_join (σ := Sl × Bool) (fun st w' => ∃ out : List PE, SlO w w' ([(b3, (entC e).toArray, ty_impl_Entry)] ++ []) ty_impl_Entry 2 st.1 (out.flatMap entC) ∧ st.1.n = out.length ∧ out.length ≤ j + (if st.2 = true then 1 else 0) ∧ ∀ x ∈ out, x ∈ es ∨ x = e) (fun st w4 hJ => ?_) ?_
    · obtain ⟨so, dn⟩ := st
      obtain ⟨out, hS, hson, hol, hin⟩ := hJ
      dsimp only at hS hson hol
      refine r_any fun _ => ?_
      dsimp only
      have hol2 : out.length ≤ j + 1 := by split at hol <;> omega
      obtain ⟨Lo, hO, h⟩ := hS.split
      refine r_draw h fun w5 h => ?_
      obtain ⟨p, hp, ha, hl0⟩ := le_ h
      refine r_ix p hp (by omega) (by omega) ?_
      simp only [Int.toNat_natCast]
      refine r_ldN (sh := .str) f.1 hl0 ?_
      refine r_ldN (sh := .str) e.1 (ln_ h.pl1) ?_
      refine r_pur (sh := .bool) _ (fun w' => run_neq_str _ _ _ _ _ w') ?_
      refine r_cond (fun _ => ?_) (fun _ => ?_)
      · refine r_ix p hp (by omega) (by omega) ?_
        simp only [Int.toNat_natCast]
        refine r_ldN (entC f).toArray ha ?_
        refine r_push T_sl_Entry (hO.slo h) (v := .agg (entC f).toArray) (by simp [Value.cells, entC_len]) (by omega) (by simpa [Value.cells] using entC_one f) (by omega) (by omega) fun y45 w6 hS6 hn6 => ?_
        refine ⟨(y45, dn, ((j + 1 : Nat) : Int)), by rw [w64 (by omega) (by omega)]; rfl, ⟨j + 1, out ++ [f], rfl, by omega, by simpa [Value.cells, List.flatMap_append] using hS6, by dsimp only; rw [List.length_append]; simp; omega, by dsimp only; rw [List.length_append]; simp; omega, fun x hx => ?_⟩, by dsimp only; omega⟩
        rcases List.mem_append.1 hx with hx | hx
        · exact hin x hx
        · rw [List.mem_singleton.1 hx]; exact .inl hem
      · exact ⟨(so, dn, ((j + 1 : Nat) : Int)), by rw [w64 (by omega) (by omega)]; rfl, ⟨j + 1, out, rfl, by omega, hO.slo h, hson, by dsimp only; omega, hin⟩, by dsimp only; omega⟩
    · obtain ⟨Lo, hO, h⟩ := hS.split
      refine r_draw h fun w4 h => ?_
      cases dn with
      | true =>
        refine r_false rfl ?_
        exact ⟨(so, true), rfl, out, hO.slo h, hson, hol, hin⟩
      | false =>
        refine r_true rfl ?_
        obtain ⟨p, hp, ha, hl0⟩ := le_ h
        refine r_ix p hp (by omega) (by omega) ?_
        simp only [Int.toNat_natCast]
        refine r_ldN (sh := .str) f.1 hl0 ?_
        refine r_ldN (sh := .str) e.1 (ln_ h.pl1) ?_
        refine r_pur (sh := .bool) _ (fun w' => run_geq_ltN _ _ _ _ _ w') ?_
        refine r_cond (fun _ => ?_) (fun _ => ?_)
        · refine r_ldA h.pl1 0 rfl rfl (by simp [entC_len]) ?_
          simp only [Bool.false_eq_true, if_false] at hol
          refine r_push T_sl_Entry (hO.slo h) (v := .agg (entC e).toArray) (by simp [Value.cells, entC_len]) (by omega) (by simpa [Value.cells] using entC_one e) (by omega) (by omega) fun y30 w6 hS6 hn6 => ?_
          refine ⟨(y30, true), rfl, out ++ [e], by simpa [Value.cells, List.flatMap_append] using hS6, by dsimp only; rw [List.length_append]; simp; omega, by rw [List.length_append]; simp; omega, fun x hx => ?_⟩
          rcases List.mem_append.1 hx with hx | hx
          · exact hin x hx
          · exact .inr (List.mem_singleton.1 hx)
        · exact ⟨(so, false), rfl, out, hO.slo h, hson, hol, hin⟩
  · obtain ⟨Lo, hO, h⟩ := hS.split
    cases dn with
    | true =>
      refine r_false rfl ?_
      simp only [if_true] at hol
      exact r_ret h.nil so rfl ⟨out, (hO.slo h).base, by omega, hin⟩
    | false =>
      refine r_true rfl ?_
      simp only [Bool.false_eq_true, if_false] at hol
      refine r_ldA h.pl1 0 rfl rfl (by simp [entC_len]) ?_
      refine r_push T_sl_Entry (hO.slo h) (v := .agg (entC e).toArray) (by simp [Value.cells, entC_len]) (by omega) (by simpa [Value.cells] using entC_one e) (by omega) (by omega) fun y51 w6 hS6 hn6 => ?_
      refine r_ret hS6.at_.nil y51 rfl ⟨out ++ [e], ?_, by simp; omega, fun x hx => ?_⟩
      · have := hS6.base
        simpa [Value.cells, List.flatMap_append] using this
      · rcases List.mem_append.1 hx with hx | hx
        · exact hin x hx
        · exact .inr (List.mem_singleton.1 hx))

def namesL : List ByteArray := [⟨#[97]⟩, ⟨#[98]⟩, ⟨#[99]⟩, ⟨#[100]⟩, ⟨#[101]⟩, ⟨#[97, 97]⟩, ⟨#[97, 98]⟩, ⟨#[98, 97]⟩, ⟨#[122]⟩, ⟨#[110, 97, 109, 101]⟩, ⟨#[120, 46, 121]⟩, ⟨#[120, 46, 122]⟩, ⟨#[120]⟩]
theorem namesL_size : ∀ t ∈ namesL, t.size ≤ 4 := by decide
theorem c_l04Names (w : World) : Ret Tryz.prog n_spec_l04Names [] w [.slice] (fun r w' => ∃ L, At w w' L ∧ OwnS ty_string 1 r (namesL.map Value.string) L) := spec_l04Names_calls (by
  unfold spec_l04Names
  refine r_bsS13 T_sl_string (At.refl w) _ _ _ _ _ _ _ _ _ _ _ _ _ fun y L w1 h _ hO => ?_
  rw [List.append_nil] at h
  exact r_ret h.nil y rfl ⟨L, h, hO⟩)
def smallE (e : PE) : Prop := e.1.size ≤ 4 ∧ e.2.size ≤ 13
theorem c_l04DrawEntry {w0 w : World} {b : Nat} {sd : Sl} {d : List Int} {rest : List Blk} {A : Int} (hS : Src w0 b sd rest A w) (hd : SlAt w0 sd 1 (u8s d)) (hb : bytesOk d) (hA : A ≤ 1099511627000) :
    Calls Tryz.prog n_spec_l04DrawEntry #[.pointer (some ⟨b, 0, none⟩)] w fun e w' => ∃ v, e = .returned v ∧ ∃ x : PE, v = .agg (entC x).toArray ∧ smallE x ∧ Src w0 b sd rest (A + 4) w' := spec_l04DrawEntry_calls _ (by
  unfold spec_l04DrawEntry
  obtain ⟨a, st, h0, h1, h⟩ := hS
  refine r_new h fun b2 w1 h => ?_
  have h := At.sw2 h
  refine r_call h (c_l04Names _) fun r5 w2 _ _ ⟨Ln, hLn, hOn⟩ => ?_
  have h := (h.join hLn).unmid
  refine r_callR (c_text (rest := Ln ++ ((b2, (Value.agg (entC (⟨#[]⟩, ⟨#[]⟩)).toArray).cells, ty_impl_Entry) :: rest)) ⟨a, st, h0, h1, h⟩ hd hb (by omega) hOn (List.sublist_append_left _ _) (by decide) (by decide)) ?_
  rintro v w3 ⟨t1, rfl, ht1, a, st, h0, h1, h⟩
  refine ⟨t1, rfl, ?_⟩
  refine r_bsS5 T_sl_string h _ _ _ _ _ fun y9 Ly w4 h _ hOy => ?_
  refine r_callR (c_text (rest := Ly ++ (Ln ++ ((b2, (Value.agg (entC (⟨#[]⟩, ⟨#[]⟩)).toArray).cells, ty_impl_Entry) :: rest))) ⟨a, st, h0, h1, h.unmid⟩ hd hb (by omega) hOy (List.sublist_append_left _ _) (by simp) (by simp)) ?_
  rintro v w5 ⟨t2, rfl, ht2, a, st, h0, h1, h⟩
  refine ⟨t2, rfl, ?_⟩
  have h2 : t2.size ≤ 13 := by
    simp only [List.mem_cons, List.not_mem_nil, or_false] at ht2
    rcases ht2 with rfl | rfl | rfl | rfl | rfl <;> decide
  refine r_pur (sh := .agg) _ (run_mkEntry t1 t2) ?_
  have h : At w0 w5 ([(b, srcC sd a st, ty_spec_l00Src)] ++ (Ly ++ (Ln ++ ([(b2, (entC (⟨#[]⟩, ⟨#[]⟩)).toArray, ty_impl_Entry)] ++ rest)))) := h
  refine r_stA h.pl3 0 rfl rfl rfl rfl (by simp [oneC]) fun w6 h => ?_
  refine r_ldA h 0 rfl rfl rfl ?_
  have h : At w0 w6 ([(b2, (entC (t1, t2)).toArray, ty_impl_Entry)] ++ ([(b, srcC sd a st, ty_spec_l00Src)] ++ (Ly ++ (Ln ++ rest)))) := h
  exact r_retR ⟨(t1, t2), rfl, ⟨namesL_size t1 ht1, h2⟩, a, st, h0, by omega, h.right.dr1.dr1⟩)
theorem c_l04Drawn {w0 w : World} {b : Nat} {sd : Sl} {d : List Int} {rest : List Blk} {A : Int} (N : Nat) (hS : Src w0 b sd rest A w) (hd : SlAt w0 sd 1 (u8s d)) (hb : bytesOk d) (hA : A ≤ 1099511626000) (hN : N ≤ 20) :
    Calls Tryz.prog n_spec_l04Drawn #[.pointer (some ⟨b, 0, none⟩), .int .i64 (N : Int)] w fun e w' => ∃ v, e = .returned v ∧ ∃ (s : Sl) (es : List PE) (L : List Blk), v = .slice s.a s.n s.c ∧ OwnEntryS s es L ∧ es.length ≤ N ∧ (∀ x ∈ es, smallE x) ∧ Src w0 b sd (L ++ rest) (A + 100) w' := spec_l04Drawn_calls _ _ (by
  unfold spec_l04Drawn
  obtain ⟨a, st, h0, h1, h⟩ := hS
  refine r_bs0 T_sl_Entry h fun y7 w1 hy hyn => ?_
  obtain ⟨Lo, hOo, h⟩ := hy.split
  rw [w64 (n := (N : Int) + 1) (by omega) (by omega)]
  refine r_callR (c_pick (rest := Lo ++ rest) ((N : Int) + 1) ⟨a, st, h0, h1, h.unmid⟩ hd hb (by omega) (by omega) (by omega)) ?_
  rintro v w2 ⟨r11, rfl, hr0, hr1, hS⟩
  refine ⟨r11, rfl, ?_⟩
  obtain ⟨K, rfl⟩ : ∃ K : Nat, r11 = K := ⟨r11.toNat, by omega⟩
  refine r_loop (σ := Sl × Int) (fun x w' => ∃ (kk : Nat) (es : List PE) (Lo : List Blk), x.2 = kk ∧ kk ≤ K ∧ OwnEntryS x.1 es Lo ∧ es.length + kk ≤ N ∧ (∀ x ∈ es, smallE x) ∧ Src w0 b sd (Lo ++ rest) (A + 2 + 4 * (K - kk)) w') (fun x _ => x.2.toNat) (y7, (K : Int)) rfl
    ⟨K, [], Lo, rfl, by omega, by simpa [OwnEntryS] using hOo, by simp; omega, by simp, hS.mono (by omega)⟩ ?_
  clear h hOo hy hS
  rintro ⟨so, kk⟩ w3 ⟨kk, es, Lo, hk0, hkK, hOo, hel, hsm, hS⟩
  dsimp only at hk0 hOo
  subst hk0
  refine r_any fun _ => ?_
  dsimp only
  refine r_if ((kk : Int) > 0) rfl (fun hpos => ?_) (fun hz => ?_)
  · refine r_callR (c_l04DrawEntry hS hd hb (by omega)) ?_
    rintro v w4 ⟨x, rfl, hx, a, st, h0, h1, h⟩
    refine ⟨_, rfl, ?_⟩
    have h : At w0 w4 ([(b, srcC sd a st, ty_spec_l00Src)] ++ (Lo ++ rest)) := h
    refine r_call h (c_l04Put (OwnEntryS.rd hOo h.pl1) x (by omega)) fun r19 w5 _ _ ⟨es', hS5, hl5, hin5⟩ => ?_
    obtain ⟨L', hO', h⟩ := (SlO.lift h hS5).split
    have h := h.pl1.dr2
    exact ⟨(r19, ((kk - 1 : Nat) : Int)), by rw [w64 (by omega) (by omega), show (kk : Int) - 1 = ((kk - 1 : Nat) : Int) by omega]; rfl, ⟨kk - 1, es', L', rfl, by omega, hO', by omega, fun y hy => by
      rcases hin5 y hy with h6 | h6
      · exact hsm y h6
      · rw [h6]; exact hx, a, st, h0, by omega, h⟩, by dsimp only; omega⟩
  · exact r_retR ⟨so, es, Lo, rfl, hOo, by omega, hsm, hS.mono (by omega)⟩)
theorem smallE_size {es : List PE} (h : ∀ x ∈ es, smallE x) : sizeEntryS es ≤ 18 * es.length := by
  have : ∀ (X : List PE), (∀ x ∈ X, smallE x) → sumE X ≤ 17 * X.length := by
    intro X
    induction X with
    | nil => intro _; simp [sumE]
    | cons e r ih =>
      intro hX
      have h1 := hX e (by simp)
      have h2 := ih fun x hx => hX x (by simp [hx])
      have := h1.1
      have := h1.2
      rw [List.length_cons]
      show e.1.size + e.2.size + sumE r ≤ _
      omega
  have := this es h
  unfold sizeEntryS
  omega

theorem c_l05DrawChunks {w0 w : World} {b : Nat} {sd : Sl} {d : List Int} {rest : List Blk} {A : Int} (N : Nat) (hS : Src w0 b sd rest A w) (hd : SlAt w0 sd 1 (u8s d)) (hb : bytesOk d) (hA : A ≤ 1099511626000) (hN : N ≤ 20) :
    Calls Tryz.prog n_spec_l05DrawChunks #[.pointer (some ⟨b, 0, none⟩), .int .i64 (N : Int)] w fun e w' => ∃ v, e = .returned v ∧ ∃ (s : Sl) (X : List (List Int)) (L : List Blk), v = .slice s.a s.n s.c ∧ RdByteSS w' s X ∧ sizeByteSS X ≤ 1000 ∧ Src w0 b sd (L ++ rest) (A + 100) w' := spec_l05DrawChunks_calls _ _ (by
  unfold spec_l05DrawChunks
  obtain ⟨a, st, h0, h1, h⟩ := hS
  refine r_bs0 T_sl_sl_uint8 h fun y7 w1 hy hyn => ?_
  obtain ⟨Lo, hOo, h⟩ := hy.split
  rw [w64 (n := (N : Int) + 1) (by omega) (by omega)]
  refine r_callR (c_pick (rest := Lo ++ rest) ((N : Int) + 1) ⟨a, st, h0, h1, h.unmid⟩ hd hb (by omega) (by omega) (by omega)) ?_
  rintro v w2 ⟨r11, rfl, hr0, hr1, hS⟩
  refine ⟨r11, rfl, ?_⟩
  obtain ⟨K, rfl⟩ : ∃ K : Nat, r11 = K := ⟨r11.toNat, by omega⟩
  refine r_loop (σ := Sl × Int) (fun x w' => ∃ (kk : Nat) (rs : List SR) (Lo : List Blk), x.2 = kk ∧ kk ≤ K ∧ OwnS ty_sl_uint8 1 x.1 (rs.flatMap SR.cells) Lo ∧ x.1.n = rs.length ∧ rs.length + kk ≤ N ∧ (∀ r ∈ rs, KStr w' r.d r.data ∧ r.data.length ≤ 13) ∧ Src w0 b sd (Lo ++ rest) (A + 2 + 2 * (K - kk)) w') (fun x _ => x.2.toNat) (y7, (K : Int)) rfl
    ⟨K, [], Lo, rfl, by omega, by simpa using hOo, by simpa using hyn, by simp; omega, by simp, hS.mono (by omega)⟩ ?_
  clear h hOo hy hS
  rintro ⟨so, kk⟩ w3 ⟨kk, rs, Lo, hk0, hkK, hOo, hson, hel, hst, a, st, h0, h1, h⟩
  dsimp only at hk0 hOo hson
  subst hk0
  refine r_any fun _ => ?_
  dsimp only
  refine r_if ((kk : Int) > 0) rfl (fun hpos => ?_) (fun hz => ?_)
  · refine r_bsS6 T_sl_string h _ _ _ _ _ _ fun y18 Ly w4 h hb4 hOy => ?_
    refine r_callR (c_textK (rest := Ly ++ (Lo ++ rest)) ⟨a, st, h0, h1, h.unmid⟩ hd hb (by omega) hOy (List.sublist_append_left _ _) (by simp) (by simp)) ?_
    rintro v w5 ⟨t, rfl, ht, ⟨a, st, h0, h1, h⟩, hk5⟩
    refine ⟨t, rfl, ?_⟩
    have htl : t.size ≤ 13 := by
      simp only [List.mem_cons, List.not_mem_nil, or_false] at ht
      rcases ht with rfl | rfl | rfl | rfl | rfl | rfl <;> decide
    refine r_cvK fun y20 w6 hb6 hK6 => ?_
    have h := h.trans hb6
    have h : At w0 w6 ([(b, srcC sd a st, ty_spec_l00Src)] ++ (Ly ++ (Lo ++ rest))) := h
    have hkk : Keeps w3 w6 := ((Keeps.of hb4).trans hk5).trans (Keeps.of hb6)
    refine r_pushK T_sl_sl_uint8 (hOo.slo h.pl2) (v := .slice y20.a y20.n y20.c) (by simp [Value.cells]) (by omega) (by simp [Value.cells, oneC]) (by omega) (by omega) fun y22 w7 hS7 hn7 hk7 => ?_
    obtain ⟨L', hO', h⟩ := hS7.split
    have h := h.pl1.dr2
    refine ⟨(y22, ((kk - 1 : Nat) : Int)), by rw [w64 (by omega) (by omega), show (kk : Int) - 1 = ((kk - 1 : Nat) : Int) by omega]; rfl, ⟨kk - 1, rs ++ [⟨y20, strL t⟩], L', rfl, by omega, by simpa [Value.cells, SR.cells, List.flatMap_append] using hO', by dsimp only; rw [List.length_append]; simp; omega, by simp; omega, fun r hr => ?_, a, st, h0, by omega, h⟩, by dsimp only; omega⟩
    rcases List.mem_append.1 hr with hr | hr
    · exact ⟨(hst r hr).1.keep (hkk.trans hk7), (hst r hr).2⟩
    · rw [List.mem_singleton.1 hr]
      exact ⟨hK6.keep hk7, by rw [strL_len]; exact htl⟩
  · have h : At w0 w3 ([(b, srcC sd a st, ty_spec_l00Src)] ++ (Lo ++ rest)) := h
    refine r_retR ⟨so, rs.map SR.data, Lo, rfl, ⟨rs, rfl, OwnS.of hOo h.pl1 (List.sublist_append_left _ _) (fun r _ => scells_len r) (by omega), fun r hr => (hst r hr).1.bsl⟩, ?_, a, st, h0, by omega, h⟩
    have : ∀ (X : List SR), (∀ r ∈ X, r.data.length ≤ 13) → sumL (X.map SR.data) ≤ 13 * X.length := by
      intro X
      induction X with
      | nil => intro _; simp [sumL]
      | cons e r ih =>
        intro hX
        have h1 := hX e (by simp)
        have h2 := ih fun x hx => hX x (by simp [hx])
        have h3 : sumL ((e :: r).map SR.data) = e.data.length + sumL (r.map SR.data) := by simp [sumL]
        rw [h3, List.length_cons]
        omega
    have := this rs fun r hr => (hst r hr).2
    unfold sizeByteSS
    rw [List.length_map]
    omega)
end Go.Proofs.YtkifkdkjljcclaaGreat

namespace Go.Proofs.YtkifkdkjljcclaaGreat
open Go.Sx Go.RowKit

def chunkB (c : List Int) : PB := ⟨1, c⟩
def chunkKeys (X : List (List Int)) : List (List Int) := X.map fun c => (chunkB c).key
def stBlobs (X : List (List Int)) : List PB := X.map chunkB ++ (nodesF (X.length + 1) (chunkKeys X) ++ if X.length = 0 then [⟨3, []⟩] else [])
def shortX (X : List (List Int)) : Prop := ∀ c ∈ X, c.length ≤ 1024
instance (X : List (List Int)) : Decidable (shortX X) := inferInstanceAs (Decidable (∀ c ∈ X, c.length ≤ 1024))
def stListAns (B : List PB) (X : List (List Int)) : List PB × List Int × Int :=
  if X.length > 256 then ([], zero32, 3) else if validS B ∧ shortX X then
    (if (putsAns B zero32 (stBlobs X)).2.2 = 0 then ((putsAns B zero32 (stBlobs X)).1, keyF (X.length + 1) (chunkKeys X), 0) else ([], zero32, (putsAns B zero32 (stBlobs X)).2.2))
  else ([], zero32, 1)
theorem chunkKeys_ok (X : List (List Int)) : ∀ k ∈ chunkKeys X, keyOk k := fun k hk => by
  obtain ⟨c, _, rfl⟩ := List.mem_map.1 hk
  exact PB.key_ok _
theorem chunkKeys_len (X : List (List Int)) : (chunkKeys X).length = X.length := by simp [chunkKeys]
theorem sizeBs_le {A : List PB} {m : Nat} (h : ∀ b ∈ A, b.data.length ≤ m) : sizeBs A ≤ A.length * (m + 1) := by
  induction A with
  | nil => simp [sizeBs]
  | cons a r ih =>
    have e : ∀ (a : PB) (r : List PB), sizeBs (a :: r) = 1 + a.data.length + sizeBs r := fun a r => by simp [sizeBs]; omega
    have h1 := h a (by simp)
    have h2 := ih (fun b hb => h b (by simp [hb]))
    rw [e, List.length_cons, Nat.add_mul]
    omega
def SR.br (t : Int) (r : SR) : BR := ⟨t, r.d, r.data⟩
theorem run_mkEmptyB (w : World) : (Instr.build ty_impl_Blob #[(0, (.int .u8 3))]).run Tryz.prog w = .ok (.agg #[.int .u8 3, .slice none 0 0]) w := by kernel_rfl
end Go.Proofs.YtkifkdkjljcclaaGreat
