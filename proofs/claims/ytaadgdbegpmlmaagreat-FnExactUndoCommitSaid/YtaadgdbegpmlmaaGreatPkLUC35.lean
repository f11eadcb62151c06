/- History: UndoCommit: the program. -/
import Derived.Test.YtaadgdbegpmlmaaGreatPkLUC34
namespace Go.Proofs.YtaadgdbegpmlmaaGreat
open Go.Sx Go.RowKit

theorem undo1_len (out : List PE) (c : PCh) : (undo1 out c).length ≤ out.length + 1 := by
  have hp := posN_le out c.name
  unfold undo1 cutN insN
  split
  · split
    · simp; omega
    · simp; omega
  · split
    · simp; omega
    · omega
theorem undoL_len : ∀ (X : List PCh) (E : List PE), (undoL X E).length ≤ E.length + X.length
  | [], E => by simp [undoL]
  | c :: r, E => by
    have h1 := undo1_len E c
    have h2 := undoL_len r (undo1 E c)
    show (undoL r (undo1 E c)).length ≤ _
    rw [List.length_cons]
    omega
theorem undoL_snoc {X : List PCh} {E : List PE} {i : Nat} {c : PCh} (h : X[i]? = some c) : undoL (X.take (i + 1)) E = undo1 (undoL (X.take i) E) c := by
  unfold undoL
  rw [take_succ_get h, List.foldl_append]
  rfl
theorem go_undo1 : isGo Tryz.prog n_impl_UndoCommit_1 = true := by kernel_rfl
theorem c_undo_1 {w : World} {p a1 a2 a3 : Addr} {rs : List CR} {ms : List ER} {b : PBk} {hd k : List Int} (c : PCh) (h1 : ldOk w 1 a1 .ptr p) (h2 : ldOk w 32 a2 .agg (u8s hd).toArray) (h3 : ldOk w 32 a3 .agg (u8s k).toArray) (hp : LedR w p rs ms (keysB b)) (hM : ms.map ER.es = b.maps) (hv : validB b) (hh : hd ∈ keysB b) (hk : k ∈ keysB b) :
    Ret Tryz.prog n_impl_UndoCommit_1 [.agg (chC c).toArray, .pointer (some a1), .pointer (some a2), .pointer (some a3)] w [.bool] (fun r _ => r = !decide (look (mapOfB b hd) c.name = look (mapOfB b k) c.name)) := impl_UndoCommit_1_calls _ _ _ _ (by
  unfold impl_UndoCommit_1
  have he := mapOfB_ok hv hh
  have hf := mapOfB_ok hv hk
  have hel := he.2
  have hfl := hf.2
  refine r_new (At.refl w) fun b4 w1 h => ?_
  refine r_draw h fun w2 h => ?_
  have h : At w w2 ([(b4, (chC c).toArray, ty_impl_Change)] ++ []) := h
  have ln_ : ∀ {v : World} {X : List Blk}, At w v ([(b4, (chC c).toArray, ty_impl_Change)] ++ X) → ldOk v 1 ((⟨b4, 0, none⟩ : Addr).add 0) .str c.name := fun h => ldOk_own (sh := .str) h 0 rfl 0 rfl (by simp [Sh.emb])
  refine r_ldN (sh := .ptr) p (ldOk_below h.below h1) ?_
  refine r_ldN _ (ldOk_below h.below h2) ?_
  refine r_ldN (sh := .ptr) p (ldOk_below h.below h1) ?_
  refine r_ldN _ (ldOk_below h.below h3) ?_
  refine r_ldN (sh := .str) c.name (ln_ h) ?_
  refine r_call h (c_led_mapOf (hp.at h) hM hv hh) fun r8 w3 h _ hr8 => ?_
  refine r_chk3 (ln_ h) (ldOk_below h.below h3) (ldOk_below h.below h1) ?_
  refine r_call h (c_led_mapOf (hp.at h) hM hv hk) fun r11 w4 h hb4 hr11 => ?_
  refine r_chk1 (ln_ h) ?_
  refine r_call h (c_same (SlOf.below hr8 hb4) hr11 (ascN_of he) (ascN_of hf) c.name (by omega) (by omega)) fun r14 w5 h _ hr14 => ?_
  subst hr14
  exact r_ret h.nil _ rfl rfl)
theorem ent_set {es : List PE} {i : Nat} {e : PE} (h : es[i]? = some e) (x : ByteArray) : (es.flatMap entC).take (i * 2 + 1) ++ (Value.string x).cells.toList ++ (es.flatMap entC).drop (i * 2 + 1 + 1) = (es.take i ++ (e.1, x) :: es.drop (i + 1)).flatMap entC := by
  have hl := (List.getElem?_eq_some_iff.1 h).1
  have e1 : es = es.take i ++ e :: es.drop (i + 1) := by
    rw [← (List.getElem?_eq_some_iff.1 h).2, ← List.drop_eq_getElem_cons hl, List.take_append_drop]
  have hl2 : ((es.take i).flatMap entC).length = i * 2 := by rw [flatMap_length (z := 2) (fun l _ => entC_len l), List.length_take]; omega
  conv => lhs; rw [e1]
  generalize es.take i = A at hl2 ⊢
  generalize es.drop (i + 1) = B
  simp only [List.flatMap_append, List.flatMap_cons, entC, Value.cells]
  have t1 : (A.flatMap entC ++ ([Value.string e.1, Value.string e.2] ++ B.flatMap entC)).take (i * 2 + 1) = A.flatMap entC ++ [Value.string e.1] := by
    rw [List.take_append, hl2, List.take_of_length_le (by omega), show i * 2 + 1 - i * 2 = 1 by omega]
    rfl
  have t2 : (A.flatMap entC ++ ([Value.string e.1, Value.string e.2] ++ B.flatMap entC)).drop (i * 2 + 1 + 1) = B.flatMap entC := by
    rw [List.drop_append, hl2, List.drop_eq_nil_of_le (by omega), show i * 2 + 1 + 1 - i * 2 = 2 by omega]
    rfl
  rw [t1, t2]
  simp

theorem c_impl_UndoCommit {w : World} {r q q' : Array Value} {b : PBk} {hd k : List Int} {note : ByteArray} (hr : RdBook w r b) (hqa : RdKey w q hd) (hq : RdKey w q' k) (hz : sizeBook b ≤ 1073741824) :
    Ret Tryz.prog n_impl_UndoCommit [.agg r, .agg q, .agg q', .string note] w [.agg, .agg, .int .i64] (fun x w' => ∃ L, At w w' L ∧ OwnBook x.1 (undoAns b hd k note).1 L ∧ RdKey w x.2.1 (undoAns b hd k note).2.1 ∧ x.2.2 = (undoAns b hd k note).2.2) := impl_UndoCommit_calls _ _ _ _ (by
  unfold impl_UndoCommit
  obtain ⟨rfl, hho⟩ := hqa
  obtain ⟨rfl, hko⟩ := hq
  obtain ⟨s, t, rfl, ⟨rs, hX, hs⟩, ⟨ms, hM, ht⟩⟩ := hr
  refine r_new (At.refl w) fun b4 w1 h => ?_
  refine r_new h fun b5 w2 h => ?_
  refine r_new h fun b6 w3 h => ?_
  refine r_new h fun b8 w4 h => ?_
  refine r_new h fun b9 w5 h => ?_
  have h : At w w5 ([(b9, Array.replicate 32 (.int .u8 0), ty_impl_Key), (b8, bkC ⟨none, 0, 0⟩ ⟨none, 0, 0⟩, ty_impl_Book), (b6, (u8s k).toArray, ty_impl_Key), (b5, (u8s hd).toArray, ty_impl_Key), (b4, bkC s t, ty_impl_Book)]) := h
  refine r_ldA h 4 rfl rfl rfl ?_
  refine r_ldA h 3 rfl rfl (by simp [hho.1]) ?_
  refine r_ldA h 2 rfl rfl (by simp [hko.1]) ?_
  refine r_bs2 T_sl_Key h (by simp [Value.cells, hho.1]) (by simp [Value.cells, hko.1]) (by omega) fun y23 w6 hy hyn => ?_
  refine r_call hy.at_ (c_open (hs.at hy.at_) (ht.at hy.at_) hX hM (KsR.two hy hho hko) hz (by simp)) fun r24 w7 h7 _ ⟨h1, h2⟩ => ?_
  obtain ⟨o, c⟩ := r24
  dsimp only at h1 h2 ⊢
  subst h1
  rcases Decidable.em (openCode b [hd, k] = 0) with heq | hne
  · obtain ⟨hv, hin, bl, L, rfl, hL, hO⟩ := h2 heq
    have hkK := hin k (by simp)
    have hhK := hin hd (by simp)
    have h := hy.at_.join hL
    rw [heq]
    refine r_new h fun b11 w8 h => ?_
    refine r_st h 0 (o := 0) rfl rfl (by simp [Value.cells]) rfl fun w9 h => ?_
    have h : At w w9 ([(b11, #[.pointer (some ⟨bl, 0, none⟩)], ty_ptr_impl_ledger)] ++ (L ++ ([(b9, Array.replicate 32 (.int .u8 0), ty_impl_Key), (b8, bkC ⟨none, 0, 0⟩ ⟨none, 0, 0⟩, ty_impl_Book), (b6, (u8s k).toArray, ty_impl_Key), (b5, (u8s hd).toArray, ty_impl_Key), (b4, bkC s t, ty_impl_Book)] ++ []))) := by simpa [Value.cells] using h
    refine r_false rfl ?_
    have lp_ : ∀ {v : World} {V : List Blk}, At w v (V ++ ([(b11, #[.pointer (some ⟨bl, 0, none⟩)], ty_ptr_impl_ledger)] ++ (L ++ ([(b9, Array.replicate 32 (.int .u8 0), ty_impl_Key), (b8, bkC ⟨none, 0, 0⟩ ⟨none, 0, 0⟩, ty_impl_Book), (b6, (u8s k).toArray, ty_impl_Key), (b5, (u8s hd).toArray, ty_impl_Key), (b4, bkC s t, ty_impl_Book)] ++ [])))) → ldOk v 1 (⟨b11, 0, none⟩ : Addr) .ptr ⟨bl, 0, none⟩ := fun h => ldOk_own (sh := .ptr) h.pl1 0 rfl 0 rfl (by simp [Sh.emb])
    have led_ : ∀ {v : World} {V : List Blk}, At w v (V ++ ([(b11, #[.pointer (some ⟨bl, 0, none⟩)], ty_ptr_impl_ledger)] ++ (L ++ ([(b9, Array.replicate 32 (.int .u8 0), ty_impl_Key), (b8, bkC ⟨none, 0, 0⟩ ⟨none, 0, 0⟩, ty_impl_Book), (b6, (u8s k).toArray, ty_impl_Key), (b5, (u8s hd).toArray, ty_impl_Key), (b4, bkC s t, ty_impl_Book)] ++ [])))) → LedR v ⟨bl, 0, none⟩ rs ms (keysB b) := fun h => hO.rd h ((List.sublist_append_left _ _).trans ((List.sublist_append_right _ _).trans (List.sublist_append_right _ _))) (hs.at h) (ht.at h)
    have lh_ : ∀ {v : World} {V : List Blk}, At w v (V ++ ([(b11, #[.pointer (some ⟨bl, 0, none⟩)], ty_ptr_impl_ledger)] ++ (L ++ ([(b9, Array.replicate 32 (.int .u8 0), ty_impl_Key), (b8, bkC ⟨none, 0, 0⟩ ⟨none, 0, 0⟩, ty_impl_Book), (b6, (u8s k).toArray, ty_impl_Key), (b5, (u8s hd).toArray, ty_impl_Key), (b4, bkC s t, ty_impl_Book)] ++ [])))) → ldOk v 32 (⟨b5, 0, none⟩ : Addr) .agg (u8s hd).toArray := fun h => ldOk_blk h.pl3 3 rfl (by simp [hho.1])
    have lk_ : ∀ {v : World} {V : List Blk}, At w v (V ++ ([(b11, #[.pointer (some ⟨bl, 0, none⟩)], ty_ptr_impl_ledger)] ++ (L ++ ([(b9, Array.replicate 32 (.int .u8 0), ty_impl_Key), (b8, bkC ⟨none, 0, 0⟩ ⟨none, 0, 0⟩, ty_impl_Book), (b6, (u8s k).toArray, ty_impl_Key), (b5, (u8s hd).toArray, ty_impl_Key), (b4, bkC s t, ty_impl_Book)] ++ [])))) → ldOk v 32 (⟨b6, 0, none⟩ : Addr) .agg (u8s k).toArray := fun h => ldOk_blk h.pl3 2 rfl (by simp [hko.1])
    refine r_ldN (sh := .ptr) ⟨bl, 0, none⟩ (lp_ (V := []) h) ?_
    refine r_ldN _ (lk_ (V := []) h) ?_
    refine r_call h (c_led_changesAt (led_ (V := []) h) hX hM hv hkK) fun r34 w10 _ _ ⟨hS, hn34⟩ => ?_
    obtain ⟨Lc, hOc, h⟩ := (SlO.lift h hS).split
    have hcl := chgB_len hv hkK
    have hE := mapOfB_ok hv hhK
    have hEl := hE.2
    have chs_ : ∀ {v : World} {V : List Blk}, At w v (V ++ (Lc ++ ([(b11, #[.pointer (some ⟨bl, 0, none⟩)], ty_ptr_impl_ledger)] ++ (L ++ ([(b9, Array.replicate 32 (.int .u8 0), ty_impl_Key), (b8, bkC ⟨none, 0, 0⟩ ⟨none, 0, 0⟩, ty_impl_Book), (b6, (u8s k).toArray, ty_impl_Key), (b5, (u8s hd).toArray, ty_impl_Key), (b4, bkC s t, ty_impl_Book)] ++ []))))) → ChsR v r34 (chgB b k) := fun h => OwnChangeS.rd hOc h.pl1
    refine r_join (σ := Unit) (fun _ w' => k ∈ ancB b hd ∧ sameB b hd k ∧ At w w' (Lc ++ ([(b11, #[.pointer (some ⟨bl, 0, none⟩)], ty_ptr_impl_ledger)] ++ (L ++ ([(b9, Array.replicate 32 (.int .u8 0), ty_impl_Key), (b8, bkC ⟨none, 0, 0⟩ ⟨none, 0, 0⟩, ty_impl_Book), (b6, (u8s k).toArray, ty_impl_Key), (b5, (u8s hd).toArray, ty_impl_Key), (b4, bkC s t, ty_impl_Book)] ++ []))))) (fun _ w11 hJ => ?_) ?_
    · obtain ⟨hanc, hsame, h⟩ := hJ
      refine r_any fun _ => ?_
      have hans : undoAns b hd k note = if (undoB b hd k).length ≤ 64 then comAns b [hd] (undoB b hd k) note else (noBk, zero32, 3) := by unfold undoAns; rw [if_pos heq, if_pos ⟨hanc, hsame⟩]
      rw [hans]
      refine r_ldN (sh := .ptr) ⟨bl, 0, none⟩ (lp_ h) ?_
      refine r_ldN _ (lh_ h) ?_
      refine r_call h (c_led_mapOf (led_ h) hM hv hhK) fun r49 w12 h _ hr49 => ?_
      refine r_call h (c_CloneEntries hr49 (by omega)) fun r50 w13 _ _ ⟨hS, hn50⟩ => ?_
      obtain ⟨Lo, hOo, h⟩ := (SlO.lift h hS).split
      have hOo : OwnEntryS r50 (mapOfB b hd) Lo := hOo
      refine r_loop (σ := Sl × Int) (fun st w' => ∃ (i : Nat) (Lo : List Blk), st.2 = i ∧ i ≤ (chgB b k).length ∧ OwnEntryS st.1 (undoL ((chgB b k).take i) (mapOfB b hd)) Lo ∧ At w w' (Lo ++ (Lc ++ ([(b11, #[.pointer (some ⟨bl, 0, none⟩)], ty_ptr_impl_ledger)] ++ (L ++ ([(b9, Array.replicate 32 (.int .u8 0), ty_impl_Key), (b8, bkC ⟨none, 0, 0⟩ ⟨none, 0, 0⟩, ty_impl_Book), (b6, (u8s k).toArray, ty_impl_Key), (b5, (u8s hd).toArray, ty_impl_Key), (b4, bkC s t, ty_impl_Book)] ++ [])))))) (fun st _ => (r34.n - st.2).toNat) (r50, 0) rfl
        ⟨0, Lo, rfl, by omega, by simpa [undoL] using hOo, h⟩ ?_
      clear h hOo hS
      rintro ⟨so, i⟩ w14 ⟨i, Lo, hi0, hi, hOo, h⟩
      dsimp only at hi0 hOo
      subst hi0
      have hnd : (namesC ((chgB b k).take i)).Nodup := by
        have := chg_nodup (ascN_of (beforeB_ok hv hkK)) (ascN_of (mapOfB_ok hv hkK))
        unfold namesC at this ⊢
        rw [List.map_take]
        exact this.sublist (List.take_sublist _ _)
      have hasc := (undoL_ok (X := (chgB b k).take i) (ascN_of hE) hnd).1
      have hlen := undoL_len ((chgB b k).take i) (mapOfB b hd)
      rw [List.length_take] at hlen
      have hson := OwnEntryS.n hOo
      refine r_any fun _ => ?_
      dsimp only
      refine r_if ((i : Int) < (r34.n : Int)) rfl (fun hlt => ?_) (fun hge => ?_)
      · obtain ⟨c, p, hc, hcm, hp, hca, _⟩ := ChsR.get (chs_ h) (i := i) (by omega)
        have hstep := undoL_snoc (E := mapOfB b hd) hc
        refine r_ix p hp (by omega) (by omega) ?_
        simp only [Int.toNat_natCast]
        refine r_ldN (chC c).toArray hca ?_
        refine r_new h fun b16 w15 h => ?_
        refine r_stA h 0 rfl rfl rfl rfl (by simpa using chC_one c) fun w16 h => ?_
        have h : At w w16 ([(b16, (chC c).toArray, ty_impl_Change)] ++ (Lo ++ (Lc ++ ([(b11, #[.pointer (some ⟨bl, 0, none⟩)], ty_ptr_impl_ledger)] ++ (L ++ ([(b9, Array.replicate 32 (.int .u8 0), ty_impl_Key), (b8, bkC ⟨none, 0, 0⟩ ⟨none, 0, 0⟩, ty_impl_Book), (b6, (u8s k).toArray, ty_impl_Key), (b5, (u8s hd).toArray, ty_impl_Key), (b4, bkC s t, ty_impl_Book)] ++ [])))))) := h
        have l0_ : ∀ {v : World} {X : List Blk}, At w v ([(b16, (chC c).toArray, ty_impl_Change)] ++ X) → ldOk v 1 ((⟨b16, 0, none⟩ : Addr).add 0) .str c.name := fun h => ldOk_own (sh := .str) h 0 rfl 0 rfl (by simp [Sh.emb])
        have l1_ : ∀ {v : World} {X : List Blk}, At w v ([(b16, (chC c).toArray, ty_impl_Change)] ++ X) → ldOk v 1 ((⟨b16, 0, none⟩ : Addr).add 1) .bool c.had := fun h => ldOk_own (sh := .bool) h 0 rfl 1 rfl (by simp [Sh.emb])
        have l2_ : ∀ {v : World} {X : List Blk}, At w v ([(b16, (chC c).toArray, ty_impl_Change)] ++ X) → ldOk v 1 ((⟨b16, 0, none⟩ : Addr).add 2) .str c.old := fun h => ldOk_own (sh := .str) h 0 rfl 2 rfl (by simp [Sh.emb])
        have hes : ∀ {v : World} {X : List Blk}, At w v ([(b16, (chC c).toArray, ty_impl_Change)] ++ (Lo ++ X)) → EsR v so (undoL ((chgB b k).take i) (mapOfB b hd)) := fun h => OwnEntryS.rd hOo h.pl1
        generalize undoL ((chgB b k).take i) (mapOfB b hd) = out at hOo hasc hlen hson hstep hes
        have hple := posN_le out c.name
        refine r_ldN (sh := .str) c.name (l0_ h) ?_
        refine r_call h (c_findE (hes h) hasc c.name (by omega)) fun r61 w17 h _ hr61 => ?_
        subst hr61
        dsimp only
        refine r_join (σ := Bool) (fun x w' => x = (hitN out c.name && c.had) ∧ At w w' ([(b16, (chC c).toArray, ty_impl_Change)] ++ (Lo ++ (Lc ++ ([(b11, #[.pointer (some ⟨bl, 0, none⟩)], ty_ptr_impl_ledger)] ++ (L ++ ([(b9, Array.replicate 32 (.int .u8 0), ty_impl_Key), (b8, bkC ⟨none, 0, 0⟩ ⟨none, 0, 0⟩, ty_impl_Book), (b6, (u8s k).toArray, ty_impl_Key), (b5, (u8s hd).toArray, ty_impl_Key), (b4, bkC s t, ty_impl_Book)] ++ []))))))) (fun x w18 hJ => ?_) ?_
        · obtain ⟨rfl, h⟩ := hJ
          refine r_any fun _ => ?_
          unfold undo1 at hstep
          cases hh : hitN out c.name with
          | true =>
            obtain ⟨e, he, hen⟩ := hit_some hh
            have hel := (List.getElem?_eq_some_iff.1 he).1
            rw [hh, if_pos rfl] at hstep
            cases hhad : c.had with
            | true =>
              rw [hhad, if_pos rfl] at hstep
              refine r_true rfl ?_
              refine r_ldN (sh := .str) c.old (l2_ h) ?_
              obtain ⟨p2, hp2⟩ := OwnS.addr hOo (by omega)
              refine r_ix p2 hp2 (by omega) (by omega) ?_
              simp only [Int.toNat_natCast]
              refine r_stO (v := .string c.old) h.pl1 hOo hp2 (posN out c.name * 2 + 1) (by rw [Go.Deep.add_add]) (by simp [Value.cells]) (by rw [flatMap_length (z := 2) (fun l _ => entC_len l)]; omega) (by simp [Value.cells, oneC]) fun w19 Lo' h hO' => ?_
              rw [ent_set he, hen, ← hstep] at hO'
              exact ⟨(so, ((i + 1 : Nat) : Int)), by rw [w64 (by omega) (by omega)]; rfl, ⟨i + 1, Lo', rfl, by omega, hO', h.dr1⟩, by dsimp only; omega⟩
            | false =>
              rw [hhad, if_neg (by simp)] at hstep
              refine r_false rfl ?_
              refine r_true rfl ?_
              rw [w64 (n := (posN out c.name : Int) + 1) (by omega) (by omega), show (posN out c.name : Int) + 1 = ((posN out c.name + 1 : Nat) : Int) by omega]
              refine r_callR (c_delE h.pl1 hOo (posN out c.name) (by omega) (by omega)) ?_
              rintro v w19 ⟨r82, L', rfl, h, hO'⟩
              refine ⟨r82, rfl, ?_⟩
              have hO' : OwnEntryS r82 (cutN out c.name) L' := hO'
              rw [← hstep] at hO'
              exact ⟨(r82, ((i + 1 : Nat) : Int)), by rw [w64 (by omega) (by omega)]; rfl, ⟨i + 1, L', rfl, by omega, hO', h.dr1⟩, by dsimp only; omega⟩
          | false =>
            rw [hh, if_neg (by simp)] at hstep
            refine r_false rfl ?_
            refine r_false rfl ?_
            refine r_ldN (sh := .bool) c.had (l1_ h) ?_
            cases hhad : c.had with
            | true =>
              rw [hhad, if_pos rfl] at hstep
              refine r_true rfl ?_
              refine r_ldN (sh := .str) c.name (l0_ h) ?_
              refine r_ldN (sh := .str) c.old (l2_ h) ?_
              refine r_pur (sh := .agg) _ (run_mkEntry c.name c.old) ?_
              refine r_bs1 T_sl_Entry h (by simp [Value.cells]) (by omega) fun y93 w19 hy93 hyn93 => ?_
              obtain ⟨Lv, hOv, h⟩ := hy93.split
              have hOv : OwnEntryS y93 [(c.name, c.old)] Lv := by
                show OwnS _ _ _ _ _
                simpa [Value.cells, entC] using hOv
              refine r_callR (c_insE h.pl2 (List.sublist_append_left _ _) hOo hOv (posN out c.name) (by omega) (by omega)) ?_
              rintro v w20 ⟨r94, L', rfl, h, hO'⟩
              refine ⟨r94, rfl, ?_⟩
              have hO' : OwnEntryS r94 (insN out (c.name, c.old)) L' := hO'
              rw [← hstep] at hO'
              exact ⟨(r94, ((i + 1 : Nat) : Int)), by rw [w64 (by omega) (by omega)]; rfl, ⟨i + 1, L', rfl, by omega, hO', h.dr1.dr1⟩, by dsimp only; omega⟩
            | false =>
              rw [hhad, if_neg (by simp)] at hstep
              refine r_false rfl ?_
              rw [← hstep] at hOo
              exact ⟨(so, ((i + 1 : Nat) : Int)), by rw [w64 (by omega) (by omega)]; rfl, ⟨i + 1, Lo, rfl, by omega, hOo, h.right⟩, by dsimp only; omega⟩
        · cases hh : hitN out c.name with
          | true =>
            refine r_true rfl ?_
            refine r_ldN (sh := .bool) c.had (l1_ h) ?_
            exact ⟨c.had, rfl, by simp, h⟩
          | false =>
            refine r_false rfl ?_
            exact ⟨false, rfl, by simp, h⟩
      · have hil : i = (chgB b k).length := by omega
        subst hil
        rw [List.take_of_length_le (Nat.le_refl _)] at hOo hlen hson
        have hOo : OwnEntryS so (undoB b hd k) Lo := hOo
        have hson : so.n = (undoB b hd k).length := hson
        refine r_if ((so.n : Int) > 64) rfl (fun hgt => ?_) (fun hle => ?_)
        · exact bad_commit (V := [_, _, _] ++ (Lo ++ (Lc ++ ([_] ++ (L ++ []))))) (by rw [if_neg (by omega)]) h.pl4
        · rw [if_pos (by omega)]
          have hoe := (undoB_ok hv hhK hkK).2 (by omega)
          refine r_ldN (sh := .ptr) ⟨bl, 0, none⟩ (lp_ (V := Lo ++ Lc) (by rw [List.append_assoc]; exact h)) ?_
          refine r_ldN _ (lh_ (V := Lo ++ Lc) (by rw [List.append_assoc]; exact h)) ?_
          refine r_bs1 T_sl_Key h (by simp [Value.cells, hho.1]) (by omega) fun y103 w15 hy103 _ => ?_
          have hks : KsR w15 y103 [hd] := KsR.one hy103 hho
          have h := hy103.at_
          refine r_call h (c_led_commit (note := note) (led_ (V := Lo ++ Lc) (by rw [List.append_assoc]; exact h)) hX hM hv hks (by simp) (OwnEntryS.rd hOo h) hoe) fun r106 w16 _ _ ⟨Lr, hLr, hOr, hkr, hcr⟩ => ?_
          obtain ⟨g0, g1, g2⟩ := r106
          dsimp only at hOr hkr hcr ⊢
          have h := (h.join hLr).pl5
          refine r_stA h 1 rfl rfl hOr.sz rfl hOr.one fun w17 h => ?_
          refine r_stA h 0 rfl rfl (RdKey.sz hkr) (by simp) (RdKey.one hkr) fun w18 h => ?_
          refine r_ldA h 1 rfl rfl hOr.sz ?_
          refine r_ldA h 0 rfl rfl (RdKey.sz hkr) ?_
          have h : At w w18 ([(b9, g1, ty_impl_Key), (b8, g0, ty_impl_Book), (b6, (u8s k).toArray, ty_impl_Key), (b5, (u8s hd).toArray, ty_impl_Key), (b4, bkC s t, ty_impl_Book)] ++ (Lr ++ (Lo ++ (Lc ++ ([(b11, #[.pointer (some ⟨bl, 0, none⟩)], ty_ptr_impl_ledger)] ++ (L ++ [])))))) := h
          exact r_ret h.nil (g0, g1, g2) rfl ⟨Lr, h.right.left, hOr, hkr, hcr⟩
    · refine r_ldN (sh := .ptr) ⟨bl, 0, none⟩ (lp_ h) ?_
      refine r_ldN _ (lk_ h) ?_
      refine r_ldN _ (lh_ h) ?_
      refine r_call h (c_led_isAncestor (led_ h) hX hv hko hhK) fun r38 w11 h _ hr38 => ?_
      subst hr38
      by_cases hanc : k ∈ ancB b hd
      · refine r_false (by rw [decide_eq_true hanc]; rfl) ?_
        refine r_call h (c_ContainsCh h (chs_ (V := []) h) (by omega) go_undo1 (fun c => !decide (look (mapOfB b hd) c.name = look (mapOfB b k) c.name)) (fun w' c hA hc => ?_)) fun r43 w12 h _ hr43 => ?_
        · exact c_undo_1 c (lp_ hA) (lh_ hA) (lk_ hA) (led_ hA) hM hv hhK hkK
        subst hr43
        by_cases hsame : sameB b hd k
        · refine r_false ?_ ?_
          · refine List.any_eq_false.2 fun c hc => ?_
            rw [decide_eq_true (hsame c hc)]
            simp
          · exact ⟨(), rfl, hanc, hsame, h⟩
        · refine r_true ?_ ?_
          · obtain ⟨c, hc⟩ := Classical.not_forall.1 hsame
            obtain ⟨hc1, hc2⟩ := Classical.not_imp.1 hc
            exact List.any_eq_true.2 ⟨c, hc1, by rw [decide_eq_false hc2]; rfl⟩
          · exact bad_commit (V := [_, _, _] ++ (Lc ++ ([_] ++ (L ++ [])))) (by unfold undoAns; rw [if_pos heq, if_neg (fun hh => hsame hh.2)]) h.pl3
      · refine r_true (by rw [decide_eq_false hanc]; rfl) ?_
        exact bad_commit (V := [_, _, _] ++ (Lc ++ ([_] ++ (L ++ [])))) (by unfold undoAns; rw [if_pos heq, if_neg (fun hh => hanc hh.1)]) h.pl3
  · refine r_new h7 fun b11 w8 h => ?_
    refine r_st h 0 (o := 0) rfl rfl (by simp [Value.cells]) rfl fun w9 h => ?_
    refine r_ne (fun _ => ?_) (fun hh => absurd hh hne)
    have h := At.tail h
    exact bad_commit (V := [_, _, _]) (by unfold undoAns; rw [if_neg hne]) h)
end Go.Proofs.YtaadgdbegpmlmaaGreat
