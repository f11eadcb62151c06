/- The laws' own source: stores. The laws' own helpers: sizes, picks, stores drawn, keys and stores compared. -/
import Derived.Test.YtkifkdkjljcclaaGreatPkLTor26
import Derived.Test.YtkifkdkjljcclaaGreatPkLTor29
import Derived.Test.YtkifkdkjljcclaaGreatPkLTor21
import Derived.Test.YtkifkdkjljcclaaGreatPkLTor24
import Derived.Test.YtkifkdkjljcclaaGreatPkLTor17
import Derived.Test.YtkifkdkjljcclaaGreatPkLTor20
namespace Go.Proofs.YtkifkdkjljcclaaGreat
open Go.Sx Go.RowKit

theorem sizeBs_valid {B : List PB} (h : validS B) : sizeBs B ≤ 200000 := by
  have h1 := sizeBs_le (A := B) (m := 1024) h.2.1
  have h2 : B.length * 1025 ≤ 128 * 1025 := Nat.mul_le_mul_right _ h.1
  have h3 : B.length * (1024 + 1) = B.length * 1025 := rfl
  omega
theorem drop_ok {B : List PB} {k : List Int} (hv : validS B) (hk : k ∈ keysOf B) : (dropAns B k).2 = 0 := by unfold dropAns; rw [if_pos hv, if_pos hk]
def Made (w0 w' : World) (b : Nat) (sd : Sl) (b7 b8 : Nat) (c : Int) (X : List Blk) (A : Int) : Prop :=
  ∃ (g8 g7 : Array Value) (B8 : List PB) (k7 : List Int) (L8 : List Blk), OwnStore g8 B8 L8 ∧ g7 = (u8s k7).toArray ∧ keyOk k7 ∧ (c = 0 → validS B8) ∧ Src w0 b sd ([(b8, g8, ty_impl_Store), (b7, g7, ty_impl_Key)] ++ (L8 ++ X)) A w'
theorem c_l05Drawn {w0 w : World} {b : Nat} {sd : Sl} {d : List Int} {rest : List Blk} {A : Int} (hS : Src w0 b sd rest A w) (hd : SlAt w0 sd 1 (u8s d)) (hb : bytesOk d) (hA : A ≤ 1099511600000) :
    Calls Tryz.prog n_spec_l05Drawn #[.pointer (some ⟨b, 0, none⟩)] w fun e w' => ∃ v, e = .returned v ∧ ∃ (g : Array Value) (sk : Sl) (B : List PB) (ks : List (List Int)) (L : List Blk), v = .tuple #[.agg g, .slice sk.a sk.n sk.c] ∧ validS B ∧ ks.length ≤ 3 ∧ (∃ L1 L2, L = L1 ++ L2 ∧ OwnStore g B L1 ∧ OwnKeyS sk ks L2) ∧ Src w0 b sd (L ++ rest) (A + 1000) w' := spec_l05Drawn_calls _ (by
  unfold spec_l05Drawn
  obtain ⟨a, st, h0, h1, h⟩ := hS
  refine r_new h fun b2 w1 h => ?_
  refine r_pur (sh := .agg) _ run_noStore ?_
  refine r_new h fun b4 w2 h => ?_
  refine r_stA h 0 rfl rfl rfl rfl (by simp [oneC]) fun w3 h => ?_
  have h : At w0 w3 ([(b4, #[.slice none 0 0], ty_impl_Store), (b2, #[.slice none 0 0], ty_impl_Store)] ++ ((b, srcC sd a st, ty_spec_l00Src) :: rest)) := h
  refine r_bs0 T_sl_Key h fun y13 w4 hy hyn => ?_
  obtain ⟨Lk, hOk, h⟩ := hy.split
  have hOk : OwnKeyS y13 [] Lk := ⟨by simpa using hOk, by simp⟩
  rw [← List.append_assoc] at h
  have h := h.unmid
  refine r_callR (c_pick (rest := (Lk ++ [(b4, #[.slice none 0 0], ty_impl_Store), (b2, #[.slice none 0 0], ty_impl_Store)]) ++ rest) 4 ⟨a, st, h0, h1, h⟩ hd hb (by omega) (by omega) (by omega)) ?_
  rintro v w5 ⟨r15, rfl, hr0, hr1, a, st, h0, h1, h⟩
  refine ⟨r15, rfl, ?_⟩
  obtain ⟨K, rfl⟩ : ∃ K : Nat, r15 = K := ⟨r15.toNat, by omega⟩
  have h : At w0 w5 ([(b, srcC sd a st, ty_spec_l00Src)] ++ ([(b4, #[.slice none 0 0], ty_impl_Store), (b2, #[.slice none 0 0], ty_impl_Store)] ++ (Lk ++ ([] ++ rest)))) := by
    have h : At w0 w5 ([(b, srcC sd a st, ty_spec_l00Src)] ++ (Lk ++ ([(b4, #[.slice none 0 0], ty_impl_Store), (b2, #[.slice none 0 0], ty_impl_Store)] ++ rest))) := by
      rw [← List.append_assoc Lk]
      exact h
    exact h.pl2.pl1
  refine r_loop (σ := Sl × Int) (fun x w' => ∃ (kk : Nat) (ks : List (List Int)) (B : List PB) (g : Array Value) (Lk Lv : List Blk), x.2 = kk ∧ kk ≤ K ∧ ks.length + kk ≤ 3 ∧ OwnKeyS x.1 ks Lk ∧ OwnStore g B Lv ∧ validS B ∧ Src w0 b sd ([(b4, g, ty_impl_Store), (b2, #[.slice none 0 0], ty_impl_Store)] ++ (Lk ++ (Lv ++ rest))) (A + 2 + 200 * (K - kk)) w') (fun x _ => x.2.toNat) (y13, (K : Int)) rfl
    ⟨K, [], [], _, Lk, [], rfl, Nat.le_refl _, by simp; omega, hOk, OwnStore.nil, validS_nil, a, st, h0, by omega, h⟩ ?_
  clear h hOk hy
  rintro ⟨sk, kk⟩ w6 ⟨kk, ks, B, g, Lk, Lv, hk0, hkK, hkl, hOk, hOv, hv, hS⟩
  dsimp only at hk0 hOk
  subst hk0
  refine r_any fun _ => ?_
  dsimp only
  have hskn := hOk.n
  have hzB := sizeBs_valid hv
  refine r_if ((kk : Int) > 0) rfl (fun hpos => ?_) (fun hz => ?_)
  · obtain ⟨a, st, h0, h1, h⟩ := hS
    refine r_new h fun b7 w7 h => ?_
    refine r_stA h 0 rfl rfl (by simp) (by simp [Value.cells]) (by simp [oneC]) fun w8 h => ?_
    have h : At w0 w8 ([(b7, Array.replicate 32 (.int .u8 0), ty_impl_Key), (b, srcC sd a st, ty_spec_l00Src), (b4, g, ty_impl_Store), (b2, #[.slice none 0 0], ty_impl_Store)] ++ (Lk ++ (Lv ++ rest))) := h
    refine r_ldA h 2 rfl rfl hOv.sz ?_
    refine r_new h fun b8 w9 h => ?_
    refine r_stA h 0 rfl rfl hOv.sz rfl hOv.one fun w10 h => ?_
    have h : At w0 w10 ([(b8, g, ty_impl_Store), (b7, Array.replicate 32 (.int .u8 0), ty_impl_Key)] ++ ((b, srcC sd a st, ty_spec_l00Src) :: ([(b4, g, ty_impl_Store), (b2, #[.slice none 0 0], ty_impl_Store)] ++ (Lk ++ (Lv ++ rest))))) := h
    have hS : Src w0 b sd ([(b8, g, ty_impl_Store), (b7, Array.replicate 32 (.int .u8 0), ty_impl_Key)] ++ ([(b4, g, ty_impl_Store), (b2, #[.slice none 0 0], ty_impl_Store)] ++ (Lk ++ (Lv ++ rest)))) (A + 2 + 200 * (K - kk)) w10 := ⟨a, st, h0, h1, h.unmid⟩
    clear h h0 h1
    -- behind each way: what was made is laid into the two variables
    have fin_ : ∀ {v v' : World} {Y : List Blk} {r : Array Value × Array Value × Int} {An : List PB × List Int × Int} {Lr : List Blk} {a st : Int}, At w0 v ([(b, srcC sd a st, ty_spec_l00Src)] ++ ([(b8, g, ty_impl_Store), (b7, Array.replicate 32 (.int .u8 0), ty_impl_Key)] ++ (Y ++ ([(b4, g, ty_impl_Store), (b2, #[.slice none 0 0], ty_impl_Store)] ++ (Lk ++ (Lv ++ rest)))))) → At v v' Lr → OwnStore r.1 An.1 Lr → RdKey v r.2.1 An.2.1 → r.2.2 = An.2.2 → (An.2.2 = 0 → validS An.1) → 0 ≤ a → a ≤ A + 2 + 200 * (K - kk) + 190 → ∀ {k : World → Prop} {R : Value → World → Prop}, (∀ v'', Made w0 v'' b sd b7 b8 r.2.2 ([(b4, g, ty_impl_Store), (b2, #[.slice none 0 0], ty_impl_Store)] ++ (Lk ++ (Lv ++ rest))) (A + 2 + 200 * (K - kk) + 190) → k v'') →
        ((real Tryz.prog R).st 1 (Addr.mk b8 0 none) (.agg r.1) ((real Tryz.prog R).st 32 (Addr.mk b7 0 none) (.agg r.2.1) k) : World → Prop) v' := by
      intro v v' Y r An Lr a st h hLr hOr hkr hcr hval h0 h1 k R hk
      have h := (h.join hLr).pl2
      refine r_stA h 0 rfl rfl hOr.sz hOv.sz hOr.one fun v1 h => ?_
      refine r_stA h 1 rfl rfl hkr.sz (by simp) hkr.one fun v2 h => ?_
      have h : At w0 v2 ([(b8, r.1, ty_impl_Store), (b7, r.2.1, ty_impl_Key)] ++ (Lr ++ ([(b, srcC sd a st, ty_spec_l00Src)] ++ (Y ++ ([(b4, g, ty_impl_Store), (b2, #[.slice none 0 0], ty_impl_Store)] ++ (Lk ++ (Lv ++ rest))))))) := h
      have h := h.dr3.pl2
      exact hk v2 ⟨r.1, r.2.1, An.1, An.2.1, Lr, hOr, hkr.1, hkr.2, fun hc => hval (hcr.symm.trans hc), a, st, h0, h1, h⟩
    refine r_join (σ := Int) (fun c w' => Made w0 w' b sd b7 b8 c ([(b4, g, ty_impl_Store), (b2, #[.slice none 0 0], ty_impl_Store)] ++ (Lk ++ (Lv ++ rest))) (A + 2 + 200 * (K - kk) + 190)) (fun c w11 hJ => ?_) ?_
    · obtain ⟨g8, g7, B8, k7, L8, hO8, rfl, hk7, hv8, a, st, h0, h1, h⟩ := hJ
      refine r_any fun _ => ?_
      have h : At w0 w11 ([(b, srcC sd a st, ty_spec_l00Src), (b8, g8, ty_impl_Store), (b7, (u8s k7).toArray, ty_impl_Key)] ++ (L8 ++ ([(b4, g, ty_impl_Store), (b2, #[.slice none 0 0], ty_impl_Store)] ++ (Lk ++ (Lv ++ rest))))) := h
      refine r_eq (fun hc => ?_) (fun hc => ?_)
      · refine r_ldA h 1 rfl rfl hO8.sz ?_
        refine r_stA h.pl2 0 rfl rfl hO8.sz hOv.sz hO8.one fun w12 h => ?_
        have h : At w0 w12 ([(b4, g8, ty_impl_Store), (b2, #[.slice none 0 0], ty_impl_Store)] ++ ([(b, srcC sd a st, ty_spec_l00Src), (b8, g8, ty_impl_Store), (b7, (u8s k7).toArray, ty_impl_Key)] ++ (L8 ++ (Lk ++ (Lv ++ rest))))) := h
        refine r_ldA h.pl1 2 rfl rfl (by simp [hk7.1]) ?_
        refine r_push T_sl_Key (hOk.1.slo h.pl3) (v := .agg (u8s k7).toArray) (by simp [Value.cells, hk7.1]) (by omega) (by simpa [Value.cells] using u8s_one) (by omega) (by omega) fun y75 w13 hS13 hn13 => ?_
        obtain ⟨L', hO', h⟩ := hS13.split
        have h : At w0 w13 (L' ++ ([(b4, g8, ty_impl_Store), (b2, #[.slice none 0 0], ty_impl_Store)] ++ ([(b, srcC sd a st, ty_spec_l00Src)] ++ ([(b8, g8, ty_impl_Store), (b7, (u8s k7).toArray, ty_impl_Key)] ++ (L8 ++ (Lv ++ rest)))))) := h
        have h := h.pl2.pl2.pl1.dr3.dr4
        exact ⟨(y75, ((kk - 1 : Nat) : Int)), by rw [w64 (by omega) (by omega), show (kk : Int) - 1 = ((kk - 1 : Nat) : Int) by omega]; rfl, ⟨kk - 1, ks ++ [k7], B8, g8, L', L8, rfl, by omega, by simp; omega, ⟨by simpa [Value.cells, List.flatMap_append] using hO', fun z hz => by
          rcases List.mem_append.1 hz with hz | hz
          · exact hOk.2 z hz
          · rw [List.mem_singleton.1 hz]; exact hk7⟩, hO8, hv8 hc, a, st, h0, by omega, h⟩, by dsimp only; omega⟩
      · have h : At w0 w11 ([(b, srcC sd a st, ty_spec_l00Src)] ++ ([(b8, g8, ty_impl_Store), (b7, (u8s k7).toArray, ty_impl_Key)] ++ (L8 ++ ([(b4, g, ty_impl_Store), (b2, #[.slice none 0 0], ty_impl_Store)] ++ (Lk ++ (Lv ++ rest)))))) := h
        exact ⟨(sk, ((kk - 1 : Nat) : Int)), by rw [w64 (by omega) (by omega), show (kk : Int) - 1 = ((kk - 1 : Nat) : Int) by omega]; rfl, ⟨kk - 1, ks, B, g, Lk, Lv, rfl, by omega, by omega, hOk, hOv, hv, a, st, h0, by omega, h.dr1.dr1⟩, by dsimp only; omega⟩
    · refine r_callR (c_pick 4 hS hd hb (by omega) (by omega) (by omega)) ?_
      rintro v w11 ⟨r23, rfl, hq0, hq1, a, st, h0, h1, h⟩
      refine ⟨r23, rfl, ?_⟩
      have h : At w0 w11 ([(b, srcC sd a st, ty_spec_l00Src)] ++ ([(b8, g, ty_impl_Store), (b7, Array.replicate 32 (.int .u8 0), ty_impl_Key)] ++ ([(b4, g, ty_impl_Store), (b2, #[.slice none 0 0], ty_impl_Store)] ++ (Lk ++ (Lv ++ rest))))) := h
      refine r_eq (fun hc => ?_) (fun hc => ?_)
      · refine r_draw h fun w12 h => ?_
        refine r_ldA h.pl2 0 rfl rfl hOv.sz ?_
        refine r_callR (c_l04Drawn (rest := [(b8, g, ty_impl_Store), (b7, Array.replicate 32 (.int .u8 0), ty_impl_Key)] ++ ([(b4, g, ty_impl_Store), (b2, #[.slice none 0 0], ty_impl_Store)] ++ (Lk ++ (Lv ++ rest)))) 5 ⟨a, st, h0, h1, h⟩ hd hb (by omega) (by omega)) ?_
        rintro v w13 ⟨r29, es, Le, rfl, hOe, hel, hsm, a, st, h0, h1, h⟩
        refine ⟨r29, rfl, ?_⟩
        have h : At w0 w13 ([(b, srcC sd a st, ty_spec_l00Src)] ++ (Le ++ ([(b8, g, ty_impl_Store), (b7, Array.replicate 32 (.int .u8 0), ty_impl_Key)] ++ ([(b4, g, ty_impl_Store), (b2, #[.slice none 0 0], ty_impl_Store)] ++ (Lk ++ (Lv ++ rest)))))) := h
        refine r_chk1 (ldOk_blk h.pl3 0 rfl hOv.sz) ?_
        have hse := smallE_size hsm
        refine r_call h (c_spec_StoreMap (hOv.rd h.pl5) (OwnEntryS.rd hOe h.pl1) (by omega) (by omega)) fun r30 w14 _ _ ⟨Lr, hLr, hOr, hkr, hcr⟩ => ?_
        exact fin_ (An := stMapAns B es) h.pl2.pl1 hLr hOr hkr hcr (fun hh => stMapAns_valid hh) h0 (by omega) fun v'' hM => ⟨r30.2.2, rfl, hM⟩
      refine r_eq (fun hc => ?_) (fun hc => ?_)
      · refine r_draw h fun w12 h => ?_
        refine r_ldA h.pl2 0 rfl rfl hOv.sz ?_
        refine r_callR (c_l05DrawChunks (rest := [(b8, g, ty_impl_Store), (b7, Array.replicate 32 (.int .u8 0), ty_impl_Key)] ++ ([(b4, g, ty_impl_Store), (b2, #[.slice none 0 0], ty_impl_Store)] ++ (Lk ++ (Lv ++ rest)))) 5 ⟨a, st, h0, h1, h⟩ hd hb (by omega) (by omega)) ?_
        rintro v w13 ⟨r39, X, Le, rfl, hX, hsx, a, st, h0, h1, h⟩
        refine ⟨r39, rfl, ?_⟩
        have h : At w0 w13 ([(b, srcC sd a st, ty_spec_l00Src)] ++ (Le ++ ([(b8, g, ty_impl_Store), (b7, Array.replicate 32 (.int .u8 0), ty_impl_Key)] ++ ([(b4, g, ty_impl_Store), (b2, #[.slice none 0 0], ty_impl_Store)] ++ (Lk ++ (Lv ++ rest)))))) := h
        refine r_chk1 (ldOk_blk h.pl3 0 rfl hOv.sz) ?_
        refine r_call h (c_spec_StoreList (hOv.rd h.pl5) hX (by omega) (by omega)) fun r40 w14 _ _ ⟨Lr, hLr, hOr, hkr, hcr⟩ => ?_
        exact fin_ (An := stListAns B X) h.pl2.pl1 hLr hOr hkr hcr (fun hh => stListAns_valid hh) h0 (by omega) fun v'' hM => ⟨r40.2.2, rfl, hM⟩
      refine r_eq (fun hc => ?_) (fun hc => ?_)
      · refine r_ldA h.pl2 0 rfl rfl hOv.sz ?_
        refine r_call h (c_spec_PutFolder (hOv.rd h.pl4) (hOk.rd h.pl3) (by omega) (by unfold sizeKeyS; omega)) fun r49 w14 _ _ ⟨Lr, hLr, hOr, hkr, hcr⟩ => ?_
        exact fin_ (Y := []) (An := foldAns B ks) h hLr hOr hkr hcr (fun hh => foldAns_valid hOk.2 hh) h0 (by omega) fun v'' hM => ⟨r49.2.2, rfl, hM⟩
      refine r_eq (fun hc => ?_) (fun hc => by omega)
      refine r_draw h fun w12 h => ?_
      refine r_ldA h.pl2 0 rfl rfl hOv.sz ?_
      refine r_all2 ?_ ?_
      · refine r_callR (c_pick (rest := ([(b8, g, ty_impl_Store), (b7, Array.replicate 32 (.int .u8 0), ty_impl_Key)] ++ ([(b4, g, ty_impl_Store), (b2, #[.slice none 0 0], ty_impl_Store)] ++ (Lk ++ (Lv ++ rest))))) 9 ⟨a, st, h0, h1, h⟩ hd hb (by omega) (by omega) (by omega)) ?_
        rintro v w13 ⟨r58, rfl, hp0, hp1, a, st, h0, h1, h⟩
        refine ⟨r58, rfl, ?_⟩
        have h : At w0 w13 ([(b, srcC sd a st, ty_spec_l00Src)] ++ ([(b8, g, ty_impl_Store), (b7, Array.replicate 32 (.int .u8 0), ty_impl_Key)] ++ ([(b4, g, ty_impl_Store), (b2, #[.slice none 0 0], ty_impl_Store)] ++ (Lk ++ (Lv ++ rest))))) := h
        refine r_chk1 (ldOk_blk h.pl2 0 rfl hOv.sz) ?_
        refine r_bsS3 T_sl_string h _ _ _ fun y61 Ly w14 h hOy => ?_
        have h : At w0 w14 ([(b, srcC sd a st, ty_spec_l00Src)] ++ (Ly ++ ([(b8, g, ty_impl_Store), (b7, Array.replicate 32 (.int .u8 0), ty_impl_Key)] ++ ([(b4, g, ty_impl_Store), (b2, #[.slice none 0 0], ty_impl_Store)] ++ (Lk ++ (Lv ++ rest)))))) := h.unmid
        refine r_chk1 (ldOk_blk h.pl3 0 rfl hOv.sz) ?_
        refine r_callR (c_text (rest := Ly ++ ([(b8, g, ty_impl_Store), (b7, Array.replicate 32 (.int .u8 0), ty_impl_Key)] ++ ([(b4, g, ty_impl_Store), (b2, #[.slice none 0 0], ty_impl_Store)] ++ (Lk ++ (Lv ++ rest))))) ⟨a, st, h0, h1, h⟩ hd hb (by omega) hOy (List.sublist_append_left _ _) (by simp) (by simp)) ?_
        rintro v w14 ⟨t, rfl, ht, a, st, h0, h1, h⟩
        refine ⟨t, rfl, ?_⟩
        have htl : t.size ≤ 4 := by
          simp only [List.mem_cons, List.not_mem_nil, or_false] at ht
          rcases ht with rfl | rfl | rfl <;> decide
        have h : At w0 w14 ([(b, srcC sd a st, ty_spec_l00Src)] ++ (Ly ++ ([(b8, g, ty_impl_Store), (b7, Array.replicate 32 (.int .u8 0), ty_impl_Key)] ++ ([(b4, g, ty_impl_Store), (b2, #[.slice none 0 0], ty_impl_Store)] ++ (Lk ++ (Lv ++ rest)))))) := h
        refine r_chk1 (ldOk_blk h.pl3 0 rfl hOv.sz) ?_
        refine r_cvK fun y63 w15 hb15 hK => ?_
        have h := h.trans hb15
        refine r_chk1 (ldOk_blk h.pl3 0 rfl hOv.sz) ?_
        have htg : 0 ≤ IntKind.wrap .u8 r58 ∧ IntKind.wrap .u8 r58 < 256 := by rw [wrapu8]; omega
        refine r_pur (sh := .agg) _ (run_mkBlob (IntKind.wrap .u8 r58) y63) ?_
        refine r_call h (c_spec_PutBlob (c := ⟨IntKind.wrap .u8 r58, strL t⟩) (hOv.rd h.pl5) ⟨⟨IntKind.wrap .u8 r58, y63, strL t⟩, rfl, rfl, hK.bsl, htg.1, htg.2⟩ (by omega) (by unfold sizeBlob; rw [strL_len]; omega)) fun r65 w16 _ _ ⟨Lr, hLr, hOr, hkr, hcr⟩ => ?_
        exact fin_ (An := putBAns B ⟨IntKind.wrap .u8 r58, strL t⟩) h.pl2.pl1 hLr hOr hkr hcr (fun hh => putBAns_valid hh) h0 (by omega) fun v'' hM => ⟨r65.2.2, rfl, hM⟩
      · refine r_bsS3 T_sl_string h _ _ _ fun y61 Ly w14 h hOy => ?_
        have h : At w0 w14 ([(b, srcC sd a st, ty_spec_l00Src)] ++ (Ly ++ ([(b8, g, ty_impl_Store), (b7, Array.replicate 32 (.int .u8 0), ty_impl_Key)] ++ ([(b4, g, ty_impl_Store), (b2, #[.slice none 0 0], ty_impl_Store)] ++ (Lk ++ (Lv ++ rest)))))) := h.unmid
        refine r_chk1 (ldOk_blk h.pl3 0 rfl hOv.sz) ?_
        refine r_callR (c_pick (rest := Ly ++ ([(b8, g, ty_impl_Store), (b7, Array.replicate 32 (.int .u8 0), ty_impl_Key)] ++ ([(b4, g, ty_impl_Store), (b2, #[.slice none 0 0], ty_impl_Store)] ++ (Lk ++ (Lv ++ rest))))) 9 ⟨a, st, h0, h1, h⟩ hd hb (by omega) (by omega) (by omega)) ?_
        rintro v w13 ⟨r58, rfl, hp0, hp1, a, st, h0, h1, h⟩
        refine ⟨r58, rfl, ?_⟩
        have h : At w0 w13 ([(b, srcC sd a st, ty_spec_l00Src)] ++ (Ly ++ ([(b8, g, ty_impl_Store), (b7, Array.replicate 32 (.int .u8 0), ty_impl_Key)] ++ ([(b4, g, ty_impl_Store), (b2, #[.slice none 0 0], ty_impl_Store)] ++ (Lk ++ (Lv ++ rest)))))) := h
        refine r_chk1 (ldOk_blk h.pl3 0 rfl hOv.sz) ?_
        refine r_callR (c_text (rest := Ly ++ ([(b8, g, ty_impl_Store), (b7, Array.replicate 32 (.int .u8 0), ty_impl_Key)] ++ ([(b4, g, ty_impl_Store), (b2, #[.slice none 0 0], ty_impl_Store)] ++ (Lk ++ (Lv ++ rest))))) ⟨a, st, h0, h1, h⟩ hd hb (by omega) hOy (List.sublist_append_left _ _) (by simp) (by simp)) ?_
        rintro v w14 ⟨t, rfl, ht, a, st, h0, h1, h⟩
        refine ⟨t, rfl, ?_⟩
        have htl : t.size ≤ 4 := by
          simp only [List.mem_cons, List.not_mem_nil, or_false] at ht
          rcases ht with rfl | rfl | rfl <;> decide
        have h : At w0 w14 ([(b, srcC sd a st, ty_spec_l00Src)] ++ (Ly ++ ([(b8, g, ty_impl_Store), (b7, Array.replicate 32 (.int .u8 0), ty_impl_Key)] ++ ([(b4, g, ty_impl_Store), (b2, #[.slice none 0 0], ty_impl_Store)] ++ (Lk ++ (Lv ++ rest)))))) := h
        refine r_chk1 (ldOk_blk h.pl3 0 rfl hOv.sz) ?_
        refine r_cvK fun y63 w15 hb15 hK => ?_
        have h := h.trans hb15
        refine r_chk1 (ldOk_blk h.pl3 0 rfl hOv.sz) ?_
        have htg : 0 ≤ IntKind.wrap .u8 r58 ∧ IntKind.wrap .u8 r58 < 256 := by rw [wrapu8]; omega
        refine r_pur (sh := .agg) _ (run_mkBlob (IntKind.wrap .u8 r58) y63) ?_
        refine r_call h (c_spec_PutBlob (c := ⟨IntKind.wrap .u8 r58, strL t⟩) (hOv.rd h.pl5) ⟨⟨IntKind.wrap .u8 r58, y63, strL t⟩, rfl, rfl, hK.bsl, htg.1, htg.2⟩ (by omega) (by unfold sizeBlob; rw [strL_len]; omega)) fun r65 w16 _ _ ⟨Lr, hLr, hOr, hkr, hcr⟩ => ?_
        exact fin_ (An := putBAns B ⟨IntKind.wrap .u8 r58, strL t⟩) h.pl2.pl1 hLr hOr hkr hcr (fun hh => putBAns_valid hh) h0 (by omega) fun v'' hM => ⟨r65.2.2, rfl, hM⟩
  · refine r_join (σ := Bool) (fun c w' => (c = true → B ≠ []) ∧ Src w0 b sd ([(b4, g, ty_impl_Store), (b2, #[.slice none 0 0], ty_impl_Store)] ++ (Lk ++ (Lv ++ rest))) (A + 700) w') (fun c w7 hJ => ?_) ?_
    · obtain ⟨hne, a, st, h0, h1, h⟩ := hJ
      refine r_any fun _ => ?_
      have h : At w0 w7 ([(b, srcC sd a st, ty_spec_l00Src), (b4, g, ty_impl_Store), (b2, #[.slice none 0 0], ty_impl_Store)] ++ (Lk ++ (Lv ++ rest))) := h
      cases c with
      | false =>
        refine r_false rfl ?_
        refine r_ldA h 1 rfl rfl hOv.sz ?_
        refine r_stA h 2 rfl rfl hOv.sz rfl hOv.one fun w8 h => ?_
        refine r_ldA h 2 rfl rfl hOv.sz ?_
        have h : At w0 w8 ([(b, srcC sd a st, ty_spec_l00Src)] ++ ([(b4, g, ty_impl_Store), (b2, g, ty_impl_Store)] ++ (Lk ++ (Lv ++ rest)))) := h
        have h := h.dr1.pl2.pl1
        rw [← List.append_assoc Lv Lk] at h
        exact r_retR ⟨g, sk, B, ks, Lv ++ Lk, rfl, hv, by omega, ⟨Lv, Lk, rfl, hOv, hOk⟩, a, st, h0, by omega, h⟩
      | true =>
        refine r_true rfl ?_
        have hB1 : 1 ≤ B.length := List.length_pos_iff.2 (hne rfl)
        obtain ⟨s, bs, rfl, hpb, hs⟩ := hOv.rd h.pl2
        refine r_call h (c_l05Open (p := ⟨b4, 0, none⟩) (fun n => ldOk_own h 1 rfl 0 rfl (by simp [Sh.emb])) hs) fun r85 w8 _ _ ⟨hr2, b', hr1, hr⟩ => ?_
        rw [hpb] at hr
        obtain ⟨Ls, hLs, hO⟩ := hr hv
        obtain ⟨r851, r852⟩ := r85
        dsimp only at hr1 ⊢
        subst hr1
        have h := h.join hLs
        obtain ⟨sk5, sb5, Lk5, Lb5, rfl, hK5, hB5⟩ := hO
        have hkn : sk5.n = B.length := by
          have := (ownS_ks hK5 h ((List.sublist_append_right _ _).trans ((List.sublist_append_right _ _).trans (List.sublist_append_left _ _))) (keysOf_ok B)).n
          rw [keysOf_len] at this
          exact this
        have h128 := hv.1
        refine r_draw h fun w9 h => ?_
        have h : At w0 w9 ([(b, srcC sd a st, ty_spec_l00Src)] ++ ([(b', #[.slice sb5.a sb5.n sb5.c, .slice sk5.a sk5.n sk5.c], ty_spec_l05Store)] ++ (Lb5 ++ (Lk5 ++ ([(b4, #[.slice s.a s.n s.c], ty_impl_Store), (b2, #[.slice none 0 0], ty_impl_Store)] ++ (Lk ++ (Lv ++ rest))))))) := by simpa [List.append_assoc] using h.unmid
        refine r_ldA h.pl4 0 rfl rfl rfl ?_
        refine r_dp rfl ?_
        refine r_ldN (sh := .slice) sk5 (ldOk_own (sh := .slice) h.pl1 0 rfl 1 rfl (by simp [Sh.emb])) ?_
        refine r_dp rfl ?_
        refine r_ldN (sh := .slice) sk5 (ldOk_own (sh := .slice) h.pl1 0 rfl 1 rfl (by simp [Sh.emb])) ?_
        refine r_callR (c_pick (rest := [(b', #[.slice sb5.a sb5.n sb5.c, .slice sk5.a sk5.n sk5.c], ty_spec_l05Store)] ++ (Lb5 ++ (Lk5 ++ ([(b4, #[.slice s.a s.n s.c], ty_impl_Store), (b2, #[.slice none 0 0], ty_impl_Store)] ++ (Lk ++ (Lv ++ rest)))))) (sk5.n : Int) ⟨a, st, h0, h1, h⟩ hd hb (by omega) (by omega) (by omega)) ?_
        rintro v w10 ⟨r100, rfl, hp0, hp1, a, st, h0, h1, h⟩
        refine ⟨r100, rfl, ?_⟩
        obtain ⟨i, rfl⟩ : ∃ i : Nat, r100 = i := ⟨r100.toNat, by omega⟩
        have h : At w0 w10 ([(b, srcC sd a st, ty_spec_l00Src)] ++ ([(b', #[.slice sb5.a sb5.n sb5.c, .slice sk5.a sk5.n sk5.c], ty_spec_l05Store)] ++ (Lb5 ++ (Lk5 ++ ([(b4, #[.slice s.a s.n s.c], ty_impl_Store), (b2, #[.slice none 0 0], ty_impl_Store)] ++ (Lk ++ (Lv ++ rest))))))) := h
        refine r_chk3 (ldOk_own (sh := .slice) h.pl1 0 rfl 1 rfl (by simp [Sh.emb])) (ldOk_own (sh := .slice) h.pl1 0 rfl 1 rfl (by simp [Sh.emb])) (ldOk_blk h.pl4 0 rfl rfl) ?_
        obtain ⟨k, q, hk, hkm, hq, hko, hkl2⟩ := (ownS_ks hK5 h ((List.sublist_append_left _ _).trans ((List.sublist_append_right _ _).trans ((List.sublist_append_right _ _).trans (List.sublist_append_right _ _)))) (keysOf_ok B)).get (i := i) (by rw [keysOf_len]; omega)
        refine r_ix q hq (by omega) (by omega) ?_
        simp only [Int.toNat_natCast]
        refine r_ldN (u8s k).toArray hkl2 ?_
        refine r_call h (c_spec_DropBlob (hOv.rd h.pl6) ⟨rfl, hko⟩ (by omega)) fun r103 w11 _ _ ⟨Ld, hLd, hOd, hcd⟩ => ?_
        obtain ⟨g', c'⟩ := r103
        dsimp only at hOd hcd ⊢
        have h := (h.join hLd).pl1
        refine r_chk2 (ldOk_own (sh := .slice) h.pl2 0 rfl 1 rfl (by simp [Sh.emb])) (ldOk_own (sh := .slice) h.pl2 0 rfl 1 rfl (by simp [Sh.emb])) ?_
        refine r_stA h.pl5 0 rfl rfl hOd.sz rfl hOd.one fun w12 h => ?_
        refine r_ldA h 0 rfl rfl hOd.sz ?_
        refine r_stA h 1 rfl rfl hOd.sz rfl hOd.one fun w13 h => ?_
        refine r_ldA h 1 rfl rfl hOd.sz ?_
        have h : At w0 w13 ([(b4, g', ty_impl_Store), (b2, g', ty_impl_Store)] ++ ([(b, srcC sd a st, ty_spec_l00Src)] ++ (Ld ++ ([(b', #[.slice sb5.a sb5.n sb5.c, .slice sk5.a sk5.n sk5.c], ty_spec_l05Store)] ++ (Lb5 ++ (Lk5 ++ (Lk ++ (Lv ++ rest)))))))) := h
        have h := h.right.dr2.dr2.dr2.dr3
        rw [← List.append_assoc Ld Lk] at h
        exact r_retR ⟨g', sk, (dropAns B k).1, ks, Ld ++ Lk, rfl, dropAns_valid (drop_ok hv hkm), by omega, ⟨Ld, Lk, rfl, hOd, hOk⟩, a, st, h0, by omega, h⟩
    · obtain ⟨s, bs, hg, hpb, hs⟩ : ∃ (s : Sl) (bs : List BR), g = #[.slice s.a s.n s.c] ∧ bs.map BR.pb = B ∧ s.n = bs.length := by
        obtain ⟨a, st, h0, h1, h⟩ := hS
        have h : At w0 w6 ([(b, srcC sd a st, ty_spec_l00Src), (b4, g, ty_impl_Store), (b2, #[.slice none 0 0], ty_impl_Store)] ++ (Lk ++ (Lv ++ rest))) := h
        obtain ⟨s, bs, h1, h2, h3⟩ := hOv.rd h.pl2
        exact ⟨s, bs, h1, h2, h3.n⟩
      refine r_callR (c_one 5 hS hd hb (by omega) (by omega) (by omega)) ?_
      rintro v w7 ⟨r77, rfl, hS⟩
      refine ⟨r77, rfl, ?_⟩
      cases r77 with
      | false =>
        refine r_false rfl ?_
        exact ⟨false, rfl, by simp, hS.mono (by omega)⟩
      | true =>
        refine r_true rfl ?_
        obtain ⟨a, st, h0, h1, h⟩ := hS
        subst hg
        refine r_ldN (sh := .slice) s (ldOk_own (sh := .slice) h 1 rfl 0 rfl (by simp [Sh.emb])) ?_
        refine ⟨decide ((s.n : Int) > 0), rfl, fun hh => ?_, a, st, h0, by omega, h⟩
        have hpos := of_decide_eq_true hh
        intro hnil
        rw [← hpb] at hnil
        have : bs.length = 0 := by
          have := congrArg List.length hnil
          simpa using this
        omega)
end Go.Proofs.YtkifkdkjljcclaaGreat

namespace Go.Proofs.YtkifkdkjljcclaaGreat
open Go.Sx Go.RowKit

theorem c_f6big (s : Sl) : RetP Tryz.prog n_laws_f6big [.slice s.a s.n s.c] [.bool] (decide (4096 < s.n)) := fun w => laws_f6big_calls s (by
  unfold laws_f6big
  refine r_retP ?_
  have e : decide ((s.n : Int) > 4096) = decide (4096 < s.n) := decide_eq_decide.2 (by omega)
  rw [e]; rfl)
theorem c_P6Pick {w : World} {sd : Sl} {d : List Int} (N : Nat) (hd : SlAt w sd 1 (u8s d)) (hb : bytesOk d) (hN : 1 ≤ N) (hN2 : N ≤ 1048576) :
    Ret Tryz.prog n_spec_P6Pick [.slice sd.a sd.n sd.c, .int .i64 (N : Int)] w [.int .i64] (fun r _ => ∃ i : Nat, r = i ∧ i < N) := spec_P6Pick_calls _ _ (by
  unfold spec_P6Pick
  refine r_callR (c_l00From sd w) ?_
  rintro v w2 ⟨b, rfl, hS⟩
  refine ⟨⟨b, 0, none⟩, rfl, ?_⟩
  refine r_callR (c_pick (N : Int) hS hd hb (by omega) (by omega) (by omega)) ?_
  rintro v w3 ⟨r, rfl, h0, h1, a, st, _, _, h⟩
  refine ⟨r, rfl, ?_⟩
  exact r_ret h.nil r rfl ⟨r.toNat, (Int.toNat_of_nonneg h0).symm, by omega⟩)
theorem c_SameStore {w : World} {r r' : Array Value} {B C : List PB} (hr : RdStore w r B) (hr' : RdStore w r' C) (hz : sizeBs B ≤ 1073741824) : Ret Tryz.prog n_spec_SameStore [.agg r, .agg r'] w [.bool] (fun x _ => x = decide (B = C)) := spec_SameStore_calls _ _ (by
  unfold spec_SameStore
  obtain ⟨s, bs, rfl, hpb, hs⟩ := hr
  obtain ⟨t, cs, rfl, hpc, ht⟩ := hr'
  have hn := hs.n
  have hm := ht.n
  have hl := le_sizeBs B
  have hbl : bs.length = B.length := by rw [← hpb]; simp
  have hcl : cs.length = C.length := by rw [← hpc]; simp
  refine r_new (At.refl w) fun b2 w1 h => ?_
  refine r_new h fun b3 w2 h => ?_
  have h : At w w2 [(b3, #[.slice t.a t.n t.c], ty_impl_Store), (b2, #[.slice s.a s.n s.c], ty_impl_Store)] := h
  refine r_ld h 1 rfl (add_lit _ _ _) s (by simp [Sh.emb]) rfl ?_
  refine r_ld h 0 rfl (add_lit _ _ _) t (by simp [Sh.emb]) rfl ?_
  refine r_ne (fun hne => ?_) (fun heq => ?_)
  · exact r_ret h.nil false rfl (decide_eq_false fun hh => hne (by rw [hn, hm, hbl, hcl, hh])).symm
  refine r_loop (σ := Int) (fun i w' => ∃ j : Nat, i = j ∧ j ≤ B.length ∧ B.take j = C.take j ∧ At w w' [(b3, #[.slice t.a t.n t.c], ty_impl_Store), (b2, #[.slice s.a s.n s.c], ty_impl_Store)]) (fun i _ => (s.n - i).toNat) 0 rfl ⟨0, rfl, by omega, by simp, h⟩ ?_
  clear h
  rintro i w3 ⟨j, rfl, hj, hsame, h⟩
  refine r_any fun _ => ?_
  refine r_ld h 1 rfl (add_lit _ _ _) s (by simp [Sh.emb]) rfl ?_
  refine r_if ((j : Int) < (s.n : Int)) rfl (fun hlt => ?_) (fun hge => ?_)
  · refine r_draw h fun w4 h => ?_
    obtain ⟨x, p, hx, hxm, hp, hxa, _⟩ := (hs.at h.nil).bat (i := j) (by omega)
    obtain ⟨y, q, hy, hym, hq, hya, _⟩ := (ht.at h.nil).bat (i := j) (by omega)
    have hxB : B[j]? = some x.pb := by rw [← hpb, List.getElem?_map, hx]; rfl
    have hyC : C[j]? = some y.pb := by rw [← hpc, List.getElem?_map, hy]; rfl
    have hxl := data_le_sizeBs (List.mem_of_getElem? hxB)
    have hxl : x.data.length ≤ sizeBs B := hxl
    refine r_ld h 1 rfl (add_lit _ _ _) s (by simp [Sh.emb]) rfl ?_
    refine r_ix p hp (by omega) (by omega) ?_
    refine r_ld h 0 rfl (add_lit _ _ _) t (by simp [Sh.emb]) rfl ?_
    refine r_ix q hq (by omega) (by omega) ?_
    simp only [Int.toNat_natCast]
    refine r_call h (c_l05SameBlob hxa hya (by omega)) fun r28 w5 h _ hr28 => ?_
    subst hr28
    refine r_chk2 (ldOk_own h 0 rfl 0 rfl (by simp [Sh.emb])) (ldOk_own h 1 rfl 0 rfl (by simp [Sh.emb])) ?_
    by_cases hxy : x.pb = y.pb
    · refine r_false (by rw [decide_eq_true hxy]; rfl) ?_
      refine ⟨((j + 1 : Nat) : Int), by rw [w64 (by omega) (by omega)]; rfl, ⟨j + 1, rfl, by omega, ?_, h⟩, by omega⟩
      rw [take_succ_get hxB, take_succ_get hyC, hsame, hxy]
    · refine r_true (by rw [decide_eq_false hxy]; rfl) ?_
      exact r_ret h.nil false rfl (decide_eq_false fun hh => hxy (by rw [hh, hyC] at hxB; exact (Option.some.inj hxB).symm)).symm
  · rw [List.take_of_length_le (by omega), List.take_of_length_le (by omega)] at hsame
    exact r_ret h.nil true rfl (decide_eq_true hsame).symm)
end Go.Proofs.YtkifkdkjljcclaaGreat
