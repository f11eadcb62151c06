/- Packs: the laws' own source: stores with blobs that are alike. Printed in part (l06.py). -/
import Derived.Test.YtkifkdkjljcclaaGreatPkLTor30
import Derived.Test.YtkifkdkjljcclaaGreatPkLTor40
namespace Go.Proofs.YtkifkdkjljcclaaGreat
open Go.Sx Go.RowKit

def textsL : List ByteArray := [⟨#[97]⟩, ⟨#[48, 49, 50, 51, 52, 53, 54, 55, 56, 57]⟩, ⟨#[115, 111, 109, 101, 32, 119, 111, 114, 100, 115, 32, 116, 104, 97, 116, 32, 99, 111, 109, 101, 32, 97, 103, 97, 105, 110]⟩, ⟨#[120, 121]⟩, ⟨#[97, 110, 111, 116, 104, 101, 114, 32, 112, 97, 114, 116, 32, 111, 102, 32, 116, 104, 101, 32, 116, 101, 120, 116]⟩]
theorem textsL_size : ∀ t ∈ textsL, t.size ≤ 30 := by decide
theorem c_l06Bytes {w0 w : World} {b : Nat} {sd : Sl} {d : List Int} {rest : List Blk} {A : Int} (hS : Src w0 b sd rest A w) (hd : SlAt w0 sd 1 (u8s d)) (hb : bytesOk d) (hA : A ≤ 1099511620000) :
    Calls Tryz.prog n_spec_l06Bytes #[.pointer (some ⟨b, 0, none⟩), .int .i64 5] w fun e w' => ∃ v, e = .returned v ∧ ∃ (s : Sl) (x : List Int) (L : List Blk), v = .slice s.a s.n s.c ∧ bytesOk x ∧ x.length ≤ 150 ∧ OwnS ty_uint8 1 s (u8s x) L ∧ Src w0 b sd (L ++ rest) (A + 12) w' := spec_l06Bytes_calls _ _ (by
  unfold spec_l06Bytes
  obtain ⟨a, st, h0, h1, h⟩ := hS
  refine r_bs0 T_sl_uint8 h fun y7 w1 hy hyn => ?_
  obtain ⟨Lo, hOo, h⟩ := hy.split
  have hOo : OwnS ty_uint8 1 y7 (u8s []) Lo := by simpa [u8s] using hOo
  rw [w64 (n := 5 + 1) (by omega) (by omega)]
  refine r_callR (c_pick (rest := Lo ++ rest) (5 + 1) ⟨a, st, h0, h1, h.unmid⟩ hd hb (by omega) (by omega) (by omega)) ?_
  rintro v w2 ⟨r11, rfl, hr0, hr1, a, st, h0, h1, h⟩
  refine ⟨r11, rfl, ?_⟩
  obtain ⟨K, rfl⟩ : ∃ K : Nat, r11 = K := ⟨r11.toNat, by omega⟩
  refine r_loop (σ := Sl × Int) (fun i w' => ∃ (k : Nat) (x : List Int) (Lo : List Blk), i.2 = k ∧ k ≤ K ∧ bytesOk x ∧ x.length ≤ 30 * (K - k) ∧ OwnS ty_uint8 1 i.1 (u8s x) Lo ∧ Src w0 b sd (Lo ++ rest) (A + 2 + 2 * (K - k)) w') (fun i _ => i.2.toNat) (y7, (K : Int)) rfl
    ⟨K, [], Lo, rfl, Nat.le_refl _, (fun b hb => by cases hb), by simp, hOo, a, st, h0, by omega, h⟩ ?_
  clear h hOo hy
  rintro ⟨s, i⟩ w3 ⟨k, x, Lo, hi, hk, hx, hxl, hOo, a, st, h0, h1, h⟩
  dsimp only at hi hOo
  subst hi
  refine r_any fun _ => ?_
  dsimp only
  have hsn := ownS_n hOo
  refine r_if ((k : Int) > 0) rfl (fun hpos => ?_) (fun hz => ?_)
  · have h : At w0 w3 ([(b, srcC sd a st, ty_spec_l00Src)] ++ (Lo ++ rest)) := h
    refine r_bsS5 T_sl_string h _ _ _ _ _ fun y18 Ly w4 h _ hOy => ?_
    have h := h.pl1
    refine r_callR (c_text (l := textsL) (rest := Ly ++ (Lo ++ rest)) ⟨a, st, h0, h1, h⟩ hd hb (by omega) hOy (List.sublist_append_left _ _) (by decide) (by decide)) ?_
    rintro v w5 ⟨t, rfl, ht, a, st, h0, h1, h⟩
    refine ⟨t, rfl, ?_⟩
    have htl := textsL_size t ht
    have h : At w0 w5 ([(b, srcC sd a st, ty_spec_l00Src)] ++ (Ly ++ (Lo ++ rest))) := h
    refine r_cvB (e := ty_uint8) (by kernel_rfl) (by kernel_rfl) (by kernel_rfl) fun y20 w6 hb6 h20 hn20 => ?_
    have h := h.trans hb6
    refine r_append T_sl_uint8 (hOo.slo h.pl2) h20 u8s_one (by omega) (by omega) fun y21 w7 hS hn21 => ?_
    obtain ⟨Lo', hOo', h⟩ := hS.split
    have h := h.pl1.dr2
    refine ⟨(y21, ((k - 1 : Nat) : Int)), by rw [w64 (by omega) (by omega), show (k : Int) - 1 = ((k - 1 : Nat) : Int) by omega]; rfl, ⟨k - 1, x ++ strL t, Lo', rfl, by omega, hx.append (strL_ok t), ?_, ?_, a, st, h0, by omega, h⟩, by dsimp only; omega⟩
    · rw [List.length_append, strL_len]
      omega
    · have e : u8s x ++ u8s (strL t) = u8s (x ++ strL t) := by simp [u8s]
      rw [← e]
      exact hOo'
  · exact r_retR ⟨s, x, Lo, rfl, hx, by omega, hOo, a, st, h0, by omega, h⟩)
theorem c_l06Store {w0 w : World} {b : Nat} {sd : Sl} {d : List Int} {rest : List Blk} {A : Int} (hS : Src w0 b sd rest A w) (hd : SlAt w0 sd 1 (u8s d)) (hb : bytesOk d) (hA : A ≤ 1099511600000) :
    Calls Tryz.prog n_spec_l06Store #[.pointer (some ⟨b, 0, none⟩)] w fun e w' => ∃ v, e = .returned v ∧ ∃ (g : Array Value) (B : List PB) (L : List Blk), v = .agg g ∧ validS B ∧ OwnStore g B L ∧ Src w0 b sd (L ++ rest) (A + 1200) w' := spec_l06Store_calls _ (by
  unfold spec_l06Store
  obtain ⟨a, st, h0, h1, h⟩ := hS
  refine r_new h fun b2 w1 h => ?_
  have h : At w0 w1 ([(b2, #[.slice none 0 0], ty_impl_Store)] ++ ([(b, srcC sd a st, ty_spec_l00Src)] ++ rest)) := h
  refine r_callR (c_l05Drawn (rest := [(b2, #[.slice none 0 0], ty_impl_Store)] ++ rest) ⟨a, st, h0, h1, h.pl1⟩ hd hb (by omega)) ?_
  rintro v w2 ⟨g, sk, B, ks, L, rfl, hv, hkl, ⟨L1, L2, rfl, hOv, hOk⟩, a, st, h0, h1, h⟩
  refine ⟨(g, sk), rfl, ?_⟩
  dsimp only
  refine r_new h fun b3 w3 h => ?_
  refine r_stA h 0 rfl rfl hOv.sz rfl hOv.one fun w4 h => ?_
  have h : At w0 w4 ([(b3, g, ty_impl_Store)] ++ ([(b, srcC sd a st, ty_spec_l00Src)] ++ (L1 ++ (L2 ++ ([(b2, #[.slice none 0 0], ty_impl_Store)] ++ rest))))) := by
    rw [← List.append_assoc L1]
    exact h
  have h := h.dr3.pl3.pl1
  have h : At w0 w4 ([(b3, g, ty_impl_Store), (b2, #[.slice none 0 0], ty_impl_Store)] ++ ([(b, srcC sd a st, ty_spec_l00Src)] ++ (L1 ++ rest))) := h
  have h := h.pl1
  refine r_callR (c_pick (rest := [(b3, g, ty_impl_Store), (b2, #[.slice none 0 0], ty_impl_Store)] ++ (L1 ++ rest)) 5 ⟨a, st, h0, h1, h⟩ hd hb (by omega) (by omega) (by omega)) ?_
  rintro v w5 ⟨r15, rfl, hr0, hr1, a, st, h0, h1, h⟩
  refine ⟨r15, rfl, ?_⟩
  obtain ⟨M, rfl⟩ : ∃ M : Nat, r15 = M := ⟨r15.toNat, by omega⟩
  refine r_loop (σ := Int) (fun i w' => ∃ (k : Nat) (g : Array Value) (B : List PB) (Lv : List Blk), i = k ∧ k ≤ M ∧ OwnStore g B Lv ∧ validS B ∧ Src w0 b sd ([(b3, g, ty_impl_Store), (b2, #[.slice none 0 0], ty_impl_Store)] ++ (Lv ++ rest)) (A + 1002 + 20 * (M - k)) w') (fun i _ => i.toNat) (M : Int) rfl
    ⟨M, g, B, L1, rfl, Nat.le_refl _, hOv, hv, a, st, h0, by omega, h⟩ ?_
  clear h hOv hv hOk
  rintro i w6 ⟨k, g, B, Lv, rfl, hk, hOv, hv, a, st, h0, h1, h⟩
  refine r_any fun _ => ?_
  have hz := sizeBs_valid hv
  refine r_if ((k : Int) > 0) rfl (fun hpos => ?_) (fun hz0 => ?_)
  · have nx_ : ∀ (v' : World) (g' : Array Value) (B' : List PB) (Lv' : List Blk), OwnStore g' B' Lv' → validS B' → Src w0 b sd ([(b3, g', ty_impl_Store), (b2, #[.slice none 0 0], ty_impl_Store)] ++ (Lv' ++ rest)) (A + 1002 + 20 * (M - (k - 1 : Nat))) v' →
        (∃ s' : Int, embL [.int .i64] s' = [(.int .i64 (IntKind.wrap .i64 ((k : Int) - 1)))] ∧ (∃ (k : Nat) (g : Array Value) (B : List PB) (Lv : List Blk), s' = k ∧ k ≤ M ∧ OwnStore g B Lv ∧ validS B ∧ Src w0 b sd ([(b3, g, ty_impl_Store), (b2, #[.slice none 0 0], ty_impl_Store)] ++ (Lv ++ rest)) (A + 1002 + 20 * (M - k)) v') ∧ s'.toNat < (k : Int).toNat) := fun v' g' B' Lv' h1 h2 h3 =>
      ⟨((k - 1 : Nat) : Int), by rw [w64 (by omega) (by omega), show (k : Int) - 1 = ((k - 1 : Nat) : Int) by omega]; rfl, ⟨k - 1, g', B', Lv', rfl, by omega, h1, h2, h3⟩, by omega⟩
    have fin_ : ∀ {v : World} {r29 : Array Value × Array Value × Int} {c : PB} {Lr L27 : List Blk} {a st : Int} {b6 b7 : Nat}, At w0 v ([(b, srcC sd a st, ty_spec_l00Src)] ++ ([(b6, #[.slice none 0 0], ty_impl_Store)] ++ ([(b7, Array.replicate 32 (.int .u8 0), ty_impl_Key)] ++ ([(b3, g, ty_impl_Store), (b2, #[.slice none 0 0], ty_impl_Store)] ++ (L27 ++ (Lr ++ (Lv ++ rest))))))) → OwnStore r29.1 (putBAns B c).1 Lr → ∀ {vk : World}, RdKey vk r29.2.1 (putBAns B c).2.1 → r29.2.2 = (putBAns B c).2.2 → 0 ≤ a → a ≤ A + 1002 + 20 * (M - (k - 1 : Nat)) → ∀ {R : Value → World → Prop} {kk : World → Prop},
        (∀ (v' : World) (g' : Array Value) (B' : List PB) (Lv' : List Blk), OwnStore g' B' Lv' → validS B' → Src w0 b sd ([(b3, g', ty_impl_Store), (b2, #[.slice none 0 0], ty_impl_Store)] ++ (Lv' ++ rest)) (A + 1002 + 20 * (M - (k - 1 : Nat))) v' → kk v') →
        ((real Tryz.prog R).st 1 (Addr.mk b6 0 none) (.agg r29.1) <|
         (real Tryz.prog R).st 32 (Addr.mk b7 0 none) (.agg r29.2.1) <|
         cond (r29.2.2 == 0) (
           (real Tryz.prog R).ld .agg 1 (Addr.mk b6 0 none) fun v35 =>
           (real Tryz.prog R).st 1 (Addr.mk b3 0 none) (.agg v35) <| kk) kk : World → Prop) v := by
      intro v r29 c Lr L27 a st b6 b7 h hOr vk hkr hcr h0 h1 R kk hk
      refine r_stA h.pl1 0 rfl rfl hOr.sz rfl hOr.one fun v1 h => ?_
      have h : At w0 v1 ([(b6, r29.1, ty_impl_Store)] ++ ([(b, srcC sd a st, ty_spec_l00Src)] ++ ([(b7, Array.replicate 32 (.int .u8 0), ty_impl_Key)] ++ ([(b3, g, ty_impl_Store), (b2, #[.slice none 0 0], ty_impl_Store)] ++ (L27 ++ (Lr ++ (Lv ++ rest))))))) := h
      refine r_stA h.pl2 0 rfl rfl hkr.sz (by simp) hkr.one fun v2 h => ?_
      have h : At w0 v2 ([(b7, r29.2.1, ty_impl_Key)] ++ ([(b6, r29.1, ty_impl_Store)] ++ ([(b, srcC sd a st, ty_spec_l00Src)] ++ ([(b3, g, ty_impl_Store), (b2, #[.slice none 0 0], ty_impl_Store)] ++ (L27 ++ (Lr ++ (Lv ++ rest))))))) := h
      have h := h.right
      refine r_eq (fun hc => ?_) (fun hc => ?_)
      · refine r_ldA h 0 rfl rfl hOr.sz ?_
        refine r_stA h.pl2 0 rfl rfl hOr.sz hOv.sz hOr.one fun v3 h => ?_
        have h : At w0 v3 ([(b3, r29.1, ty_impl_Store), (b2, #[.slice none 0 0], ty_impl_Store)] ++ ([(b6, r29.1, ty_impl_Store)] ++ ([(b, srcC sd a st, ty_spec_l00Src)] ++ (L27 ++ (Lr ++ (Lv ++ rest)))))) := h
        have h := h.dr1.pl1.dr2.dr3
        exact hk v3 r29.1 _ Lr hOr (putBAns_valid (hcr.symm.trans hc)) ⟨a, st, h0, h1, h⟩
      · have h := h.right.dr2.dr2
        exact hk v2 g B Lv hOv hv ⟨a, st, h0, h1, h⟩
    have h : At w0 w6 ([(b, srcC sd a st, ty_spec_l00Src)] ++ ([(b3, g, ty_impl_Store), (b2, #[.slice none 0 0], ty_impl_Store)] ++ (Lv ++ rest))) := h
    refine r_draw h fun w21 h => ?_
    refine r_ldA h.pl1 0 rfl rfl hOv.sz ?_
    refine r_all3 ?_ ?_ ?_
    · refine r_callR (c_pick (rest := [(b3, g, ty_impl_Store), (b2, #[.slice none 0 0], ty_impl_Store)] ++ (Lv ++ rest)) 2 ⟨a, st, h0, h1, h⟩ hd hb (by omega) (by omega) (by omega)) ?_
      rintro v w22 ⟨r23, rfl, hq0, hq1, a, st, h0, h1, h⟩
      refine ⟨r23, rfl, ?_⟩
      have h : At w0 w22 ([(b, srcC sd a st, ty_spec_l00Src)] ++ ([(b3, g, ty_impl_Store), (b2, #[.slice none 0 0], ty_impl_Store)] ++ (Lv ++ rest))) := h
      refine r_chk1 (ldOk_blk h.pl1 0 rfl hOv.sz) ?_
      refine r_all3 ?_ ?_ ?_
      · refine r_callR (c_l06Bytes (rest := [(b3, g, ty_impl_Store), (b2, #[.slice none 0 0], ty_impl_Store)] ++ (Lv ++ rest)) ⟨a, st, h0, h1, h⟩ hd hb (by omega)) ?_
        rintro v w23 ⟨r27, x, L27, rfl, hx, hxl, hO27, a, st, h0, h1, h⟩
        refine ⟨r27, rfl, ?_⟩
        have h : At w0 w23 ([(b, srcC sd a st, ty_spec_l00Src)] ++ (L27 ++ ([(b3, g, ty_impl_Store), (b2, #[.slice none 0 0], ty_impl_Store)] ++ (Lv ++ rest)))) := h
        refine r_chk1 (ldOk_blk h.pl2 0 rfl hOv.sz) ?_
        refine r_pur (sh := .agg) _ (run_mkBlob _ r27) ?_
        refine r_all3 ?_ ?_ ?_
        · have hT : 0 ≤ IntKind.wrap .u8 (IntKind.wrap .i64 (1 + r23)) ∧ IntKind.wrap .u8 (IntKind.wrap .i64 (1 + r23)) < 256 := by rw [wrapu8]; omega
          refine r_call h (c_spec_PutBlob (c := ⟨IntKind.wrap .u8 (IntKind.wrap .i64 (1 + r23)), x⟩) (hOv.rd h.pl3) ⟨⟨_, r27, x⟩, rfl, rfl, ownS_bytes hO27 h.pl1 (List.sublist_append_left _ _) hx, hT.1, hT.2⟩ (by omega) (by unfold sizeBlob; dsimp only; omega)) fun r29 w24 _ _ ⟨Lr, hLr, hOr, hkr, hcr⟩ => ?_
          have h := (h.join hLr).pl1
          refine r_all2 ?_ ?_
          · refine r_new h fun b6 w25 h => ?_
            have h : At w0 w25 ([(b6, #[.slice none 0 0], ty_impl_Store)] ++ ([(b, srcC sd a st, ty_spec_l00Src)] ++ (Lr ++ (L27 ++ ([(b3, g, ty_impl_Store), (b2, #[.slice none 0 0], ty_impl_Store)] ++ (Lv ++ rest)))))) := h
            have h := h.pl1
            refine r_new h fun b7 w26 h => ?_
            have h : At w0 w26 ([(b7, Array.replicate 32 (.int .u8 0), ty_impl_Key)] ++ ([(b, srcC sd a st, ty_spec_l00Src)] ++ ([(b6, #[.slice none 0 0], ty_impl_Store)] ++ (Lr ++ (L27 ++ ([(b3, g, ty_impl_Store), (b2, #[.slice none 0 0], ty_impl_Store)] ++ (Lv ++ rest))))))) := h
            have h := h.pl1
            exact fin_ h.pl6.pl4.pl5.pl6.pl5.pl6.pl6 hOr hkr hcr h0 (by omega) nx_
          · refine r_new h fun b7 w27 h => ?_
            have h : At w0 w27 ([(b7, Array.replicate 32 (.int .u8 0), ty_impl_Key)] ++ ([(b, srcC sd a st, ty_spec_l00Src)] ++ (Lr ++ (L27 ++ ([(b3, g, ty_impl_Store), (b2, #[.slice none 0 0], ty_impl_Store)] ++ (Lv ++ rest)))))) := h
            have h := h.pl1
            refine r_new h fun b6 w28 h => ?_
            have h : At w0 w28 ([(b6, #[.slice none 0 0], ty_impl_Store)] ++ ([(b, srcC sd a st, ty_spec_l00Src)] ++ ([(b7, Array.replicate 32 (.int .u8 0), ty_impl_Key)] ++ (Lr ++ (L27 ++ ([(b3, g, ty_impl_Store), (b2, #[.slice none 0 0], ty_impl_Store)] ++ (Lv ++ rest))))))) := h
            have h := h.pl1
            exact fin_ h.pl6.pl4.pl5.pl6.pl6.pl6.pl6 hOr hkr hcr h0 (by omega) nx_
        · refine r_new h fun b6 w29 h => ?_
          have h : At w0 w29 ([(b6, #[.slice none 0 0], ty_impl_Store)] ++ ([(b, srcC sd a st, ty_spec_l00Src)] ++ (L27 ++ ([(b3, g, ty_impl_Store), (b2, #[.slice none 0 0], ty_impl_Store)] ++ (Lv ++ rest))))) := h
          have h := h.pl1
          refine r_chk1 (ldOk_blk h.pl3 0 rfl hOv.sz) ?_
          refine r_all2 ?_ ?_
          · have hT : 0 ≤ IntKind.wrap .u8 (IntKind.wrap .i64 (1 + r23)) ∧ IntKind.wrap .u8 (IntKind.wrap .i64 (1 + r23)) < 256 := by rw [wrapu8]; omega
            refine r_call h (c_spec_PutBlob (c := ⟨IntKind.wrap .u8 (IntKind.wrap .i64 (1 + r23)), x⟩) (hOv.rd h.pl4) ⟨⟨_, r27, x⟩, rfl, rfl, ownS_bytes hO27 h.pl2 (List.sublist_append_left _ _) hx, hT.1, hT.2⟩ (by omega) (by unfold sizeBlob; dsimp only; omega)) fun r29 w30 _ _ ⟨Lr, hLr, hOr, hkr, hcr⟩ => ?_
            have h := (h.join hLr).pl1
            refine r_new h fun b7 w31 h => ?_
            have h : At w0 w31 ([(b7, Array.replicate 32 (.int .u8 0), ty_impl_Key)] ++ ([(b, srcC sd a st, ty_spec_l00Src)] ++ (Lr ++ ([(b6, #[.slice none 0 0], ty_impl_Store)] ++ (L27 ++ ([(b3, g, ty_impl_Store), (b2, #[.slice none 0 0], ty_impl_Store)] ++ (Lv ++ rest))))))) := h
            have h := h.pl1
            exact fin_ h.pl6.pl3.pl5.pl6.pl5.pl6.pl6 hOr hkr hcr h0 (by omega) nx_
          · refine r_new h fun b7 w32 h => ?_
            have h : At w0 w32 ([(b7, Array.replicate 32 (.int .u8 0), ty_impl_Key)] ++ ([(b, srcC sd a st, ty_spec_l00Src)] ++ ([(b6, #[.slice none 0 0], ty_impl_Store)] ++ (L27 ++ ([(b3, g, ty_impl_Store), (b2, #[.slice none 0 0], ty_impl_Store)] ++ (Lv ++ rest)))))) := h
            have h := h.pl1
            refine r_chk1 (ldOk_blk h.pl4 0 rfl hOv.sz) ?_
            have hT : 0 ≤ IntKind.wrap .u8 (IntKind.wrap .i64 (1 + r23)) ∧ IntKind.wrap .u8 (IntKind.wrap .i64 (1 + r23)) < 256 := by rw [wrapu8]; omega
            refine r_call h (c_spec_PutBlob (c := ⟨IntKind.wrap .u8 (IntKind.wrap .i64 (1 + r23)), x⟩) (hOv.rd h.pl5) ⟨⟨_, r27, x⟩, rfl, rfl, ownS_bytes hO27 h.pl3 (List.sublist_append_left _ _) hx, hT.1, hT.2⟩ (by omega) (by unfold sizeBlob; dsimp only; omega)) fun r29 w33 _ _ ⟨Lr, hLr, hOr, hkr, hcr⟩ => ?_
            have h := (h.join hLr).pl1
            exact fin_ h.pl6.pl2.pl5.pl6.pl5.pl6.pl6 hOr hkr hcr h0 (by omega) nx_
        · refine r_new h fun b7 w34 h => ?_
          have h : At w0 w34 ([(b7, Array.replicate 32 (.int .u8 0), ty_impl_Key)] ++ ([(b, srcC sd a st, ty_spec_l00Src)] ++ (L27 ++ ([(b3, g, ty_impl_Store), (b2, #[.slice none 0 0], ty_impl_Store)] ++ (Lv ++ rest))))) := h
          have h := h.pl1
          refine r_chk1 (ldOk_blk h.pl3 0 rfl hOv.sz) ?_
          refine r_all2 ?_ ?_
          · have hT : 0 ≤ IntKind.wrap .u8 (IntKind.wrap .i64 (1 + r23)) ∧ IntKind.wrap .u8 (IntKind.wrap .i64 (1 + r23)) < 256 := by rw [wrapu8]; omega
            refine r_call h (c_spec_PutBlob (c := ⟨IntKind.wrap .u8 (IntKind.wrap .i64 (1 + r23)), x⟩) (hOv.rd h.pl4) ⟨⟨_, r27, x⟩, rfl, rfl, ownS_bytes hO27 h.pl2 (List.sublist_append_left _ _) hx, hT.1, hT.2⟩ (by omega) (by unfold sizeBlob; dsimp only; omega)) fun r29 w35 _ _ ⟨Lr, hLr, hOr, hkr, hcr⟩ => ?_
            have h := (h.join hLr).pl1
            refine r_new h fun b6 w36 h => ?_
            have h : At w0 w36 ([(b6, #[.slice none 0 0], ty_impl_Store)] ++ ([(b, srcC sd a st, ty_spec_l00Src)] ++ (Lr ++ ([(b7, Array.replicate 32 (.int .u8 0), ty_impl_Key)] ++ (L27 ++ ([(b3, g, ty_impl_Store), (b2, #[.slice none 0 0], ty_impl_Store)] ++ (Lv ++ rest))))))) := h
            have h := h.pl1
            exact fin_ h.pl6.pl3.pl5.pl6.pl6.pl6.pl6 hOr hkr hcr h0 (by omega) nx_
          · refine r_new h fun b6 w37 h => ?_
            have h : At w0 w37 ([(b6, #[.slice none 0 0], ty_impl_Store)] ++ ([(b, srcC sd a st, ty_spec_l00Src)] ++ ([(b7, Array.replicate 32 (.int .u8 0), ty_impl_Key)] ++ (L27 ++ ([(b3, g, ty_impl_Store), (b2, #[.slice none 0 0], ty_impl_Store)] ++ (Lv ++ rest)))))) := h
            have h := h.pl1
            refine r_chk1 (ldOk_blk h.pl4 0 rfl hOv.sz) ?_
            have hT : 0 ≤ IntKind.wrap .u8 (IntKind.wrap .i64 (1 + r23)) ∧ IntKind.wrap .u8 (IntKind.wrap .i64 (1 + r23)) < 256 := by rw [wrapu8]; omega
            refine r_call h (c_spec_PutBlob (c := ⟨IntKind.wrap .u8 (IntKind.wrap .i64 (1 + r23)), x⟩) (hOv.rd h.pl5) ⟨⟨_, r27, x⟩, rfl, rfl, ownS_bytes hO27 h.pl3 (List.sublist_append_left _ _) hx, hT.1, hT.2⟩ (by omega) (by unfold sizeBlob; dsimp only; omega)) fun r29 w38 _ _ ⟨Lr, hLr, hOr, hkr, hcr⟩ => ?_
            have h := (h.join hLr).pl1
            exact fin_ h.pl6.pl2.pl5.pl6.pl6.pl6.pl6 hOr hkr hcr h0 (by omega) nx_
      · refine r_new h fun b6 w39 h => ?_
        have h : At w0 w39 ([(b6, #[.slice none 0 0], ty_impl_Store)] ++ ([(b, srcC sd a st, ty_spec_l00Src)] ++ ([(b3, g, ty_impl_Store), (b2, #[.slice none 0 0], ty_impl_Store)] ++ (Lv ++ rest)))) := h
        have h := h.pl1
        refine r_chk1 (ldOk_blk h.pl2 0 rfl hOv.sz) ?_
        refine r_all2 ?_ ?_
        · refine r_callR (c_l06Bytes (rest := [(b6, #[.slice none 0 0], ty_impl_Store)] ++ ([(b3, g, ty_impl_Store), (b2, #[.slice none 0 0], ty_impl_Store)] ++ (Lv ++ rest))) ⟨a, st, h0, h1, h⟩ hd hb (by omega)) ?_
          rintro v w40 ⟨r27, x, L27, rfl, hx, hxl, hO27, a, st, h0, h1, h⟩
          refine ⟨r27, rfl, ?_⟩
          have h : At w0 w40 ([(b, srcC sd a st, ty_spec_l00Src)] ++ (L27 ++ ([(b6, #[.slice none 0 0], ty_impl_Store)] ++ ([(b3, g, ty_impl_Store), (b2, #[.slice none 0 0], ty_impl_Store)] ++ (Lv ++ rest))))) := h
          refine r_chk1 (ldOk_blk h.pl3 0 rfl hOv.sz) ?_
          refine r_pur (sh := .agg) _ (run_mkBlob _ r27) ?_
          refine r_all2 ?_ ?_
          · have hT : 0 ≤ IntKind.wrap .u8 (IntKind.wrap .i64 (1 + r23)) ∧ IntKind.wrap .u8 (IntKind.wrap .i64 (1 + r23)) < 256 := by rw [wrapu8]; omega
            refine r_call h (c_spec_PutBlob (c := ⟨IntKind.wrap .u8 (IntKind.wrap .i64 (1 + r23)), x⟩) (hOv.rd h.pl4) ⟨⟨_, r27, x⟩, rfl, rfl, ownS_bytes hO27 h.pl1 (List.sublist_append_left _ _) hx, hT.1, hT.2⟩ (by omega) (by unfold sizeBlob; dsimp only; omega)) fun r29 w41 _ _ ⟨Lr, hLr, hOr, hkr, hcr⟩ => ?_
            have h := (h.join hLr).pl1
            refine r_new h fun b7 w42 h => ?_
            have h : At w0 w42 ([(b7, Array.replicate 32 (.int .u8 0), ty_impl_Key)] ++ ([(b, srcC sd a st, ty_spec_l00Src)] ++ (Lr ++ (L27 ++ ([(b6, #[.slice none 0 0], ty_impl_Store)] ++ ([(b3, g, ty_impl_Store), (b2, #[.slice none 0 0], ty_impl_Store)] ++ (Lv ++ rest))))))) := h
            have h := h.pl1
            exact fin_ h.pl6.pl3.pl4.pl6.pl5.pl6.pl6 hOr hkr hcr h0 (by omega) nx_
          · refine r_new h fun b7 w43 h => ?_
            have h : At w0 w43 ([(b7, Array.replicate 32 (.int .u8 0), ty_impl_Key)] ++ ([(b, srcC sd a st, ty_spec_l00Src)] ++ (L27 ++ ([(b6, #[.slice none 0 0], ty_impl_Store)] ++ ([(b3, g, ty_impl_Store), (b2, #[.slice none 0 0], ty_impl_Store)] ++ (Lv ++ rest)))))) := h
            have h := h.pl1
            refine r_chk1 (ldOk_blk h.pl4 0 rfl hOv.sz) ?_
            have hT : 0 ≤ IntKind.wrap .u8 (IntKind.wrap .i64 (1 + r23)) ∧ IntKind.wrap .u8 (IntKind.wrap .i64 (1 + r23)) < 256 := by rw [wrapu8]; omega
            refine r_call h (c_spec_PutBlob (c := ⟨IntKind.wrap .u8 (IntKind.wrap .i64 (1 + r23)), x⟩) (hOv.rd h.pl5) ⟨⟨_, r27, x⟩, rfl, rfl, ownS_bytes hO27 h.pl2 (List.sublist_append_left _ _) hx, hT.1, hT.2⟩ (by omega) (by unfold sizeBlob; dsimp only; omega)) fun r29 w44 _ _ ⟨Lr, hLr, hOr, hkr, hcr⟩ => ?_
            have h := (h.join hLr).pl1
            exact fin_ h.pl6.pl2.pl4.pl6.pl5.pl6.pl6 hOr hkr hcr h0 (by omega) nx_
        · refine r_new h fun b7 w45 h => ?_
          have h : At w0 w45 ([(b7, Array.replicate 32 (.int .u8 0), ty_impl_Key)] ++ ([(b, srcC sd a st, ty_spec_l00Src)] ++ ([(b6, #[.slice none 0 0], ty_impl_Store)] ++ ([(b3, g, ty_impl_Store), (b2, #[.slice none 0 0], ty_impl_Store)] ++ (Lv ++ rest))))) := h
          have h := h.pl1
          refine r_chk1 (ldOk_blk h.pl3 0 rfl hOv.sz) ?_
          refine r_callR (c_l06Bytes (rest := [(b7, Array.replicate 32 (.int .u8 0), ty_impl_Key)] ++ ([(b6, #[.slice none 0 0], ty_impl_Store)] ++ ([(b3, g, ty_impl_Store), (b2, #[.slice none 0 0], ty_impl_Store)] ++ (Lv ++ rest)))) ⟨a, st, h0, h1, h⟩ hd hb (by omega)) ?_
          rintro v w46 ⟨r27, x, L27, rfl, hx, hxl, hO27, a, st, h0, h1, h⟩
          refine ⟨r27, rfl, ?_⟩
          have h : At w0 w46 ([(b, srcC sd a st, ty_spec_l00Src)] ++ (L27 ++ ([(b7, Array.replicate 32 (.int .u8 0), ty_impl_Key)] ++ ([(b6, #[.slice none 0 0], ty_impl_Store)] ++ ([(b3, g, ty_impl_Store), (b2, #[.slice none 0 0], ty_impl_Store)] ++ (Lv ++ rest)))))) := h
          refine r_chk1 (ldOk_blk h.pl4 0 rfl hOv.sz) ?_
          refine r_pur (sh := .agg) _ (run_mkBlob _ r27) ?_
          have hT : 0 ≤ IntKind.wrap .u8 (IntKind.wrap .i64 (1 + r23)) ∧ IntKind.wrap .u8 (IntKind.wrap .i64 (1 + r23)) < 256 := by rw [wrapu8]; omega
          refine r_call h (c_spec_PutBlob (c := ⟨IntKind.wrap .u8 (IntKind.wrap .i64 (1 + r23)), x⟩) (hOv.rd h.pl5) ⟨⟨_, r27, x⟩, rfl, rfl, ownS_bytes hO27 h.pl1 (List.sublist_append_left _ _) hx, hT.1, hT.2⟩ (by omega) (by unfold sizeBlob; dsimp only; omega)) fun r29 w47 _ _ ⟨Lr, hLr, hOr, hkr, hcr⟩ => ?_
          have h := (h.join hLr).pl1
          exact fin_ h.pl6.pl2.pl3.pl6.pl5.pl6.pl6 hOr hkr hcr h0 (by omega) nx_
      · refine r_new h fun b7 w48 h => ?_
        have h : At w0 w48 ([(b7, Array.replicate 32 (.int .u8 0), ty_impl_Key)] ++ ([(b, srcC sd a st, ty_spec_l00Src)] ++ ([(b3, g, ty_impl_Store), (b2, #[.slice none 0 0], ty_impl_Store)] ++ (Lv ++ rest)))) := h
        have h := h.pl1
        refine r_chk1 (ldOk_blk h.pl2 0 rfl hOv.sz) ?_
        refine r_all2 ?_ ?_
        · refine r_callR (c_l06Bytes (rest := [(b7, Array.replicate 32 (.int .u8 0), ty_impl_Key)] ++ ([(b3, g, ty_impl_Store), (b2, #[.slice none 0 0], ty_impl_Store)] ++ (Lv ++ rest))) ⟨a, st, h0, h1, h⟩ hd hb (by omega)) ?_
          rintro v w49 ⟨r27, x, L27, rfl, hx, hxl, hO27, a, st, h0, h1, h⟩
          refine ⟨r27, rfl, ?_⟩
          have h : At w0 w49 ([(b, srcC sd a st, ty_spec_l00Src)] ++ (L27 ++ ([(b7, Array.replicate 32 (.int .u8 0), ty_impl_Key)] ++ ([(b3, g, ty_impl_Store), (b2, #[.slice none 0 0], ty_impl_Store)] ++ (Lv ++ rest))))) := h
          refine r_chk1 (ldOk_blk h.pl3 0 rfl hOv.sz) ?_
          refine r_pur (sh := .agg) _ (run_mkBlob _ r27) ?_
          refine r_all2 ?_ ?_
          · have hT : 0 ≤ IntKind.wrap .u8 (IntKind.wrap .i64 (1 + r23)) ∧ IntKind.wrap .u8 (IntKind.wrap .i64 (1 + r23)) < 256 := by rw [wrapu8]; omega
            refine r_call h (c_spec_PutBlob (c := ⟨IntKind.wrap .u8 (IntKind.wrap .i64 (1 + r23)), x⟩) (hOv.rd h.pl4) ⟨⟨_, r27, x⟩, rfl, rfl, ownS_bytes hO27 h.pl1 (List.sublist_append_left _ _) hx, hT.1, hT.2⟩ (by omega) (by unfold sizeBlob; dsimp only; omega)) fun r29 w50 _ _ ⟨Lr, hLr, hOr, hkr, hcr⟩ => ?_
            have h := (h.join hLr).pl1
            refine r_new h fun b6 w51 h => ?_
            have h : At w0 w51 ([(b6, #[.slice none 0 0], ty_impl_Store)] ++ ([(b, srcC sd a st, ty_spec_l00Src)] ++ (Lr ++ (L27 ++ ([(b7, Array.replicate 32 (.int .u8 0), ty_impl_Key)] ++ ([(b3, g, ty_impl_Store), (b2, #[.slice none 0 0], ty_impl_Store)] ++ (Lv ++ rest))))))) := h
            have h := h.pl1
            exact fin_ h.pl6.pl3.pl4.pl6.pl6.pl6.pl6 hOr hkr hcr h0 (by omega) nx_
          · refine r_new h fun b6 w52 h => ?_
            have h : At w0 w52 ([(b6, #[.slice none 0 0], ty_impl_Store)] ++ ([(b, srcC sd a st, ty_spec_l00Src)] ++ (L27 ++ ([(b7, Array.replicate 32 (.int .u8 0), ty_impl_Key)] ++ ([(b3, g, ty_impl_Store), (b2, #[.slice none 0 0], ty_impl_Store)] ++ (Lv ++ rest)))))) := h
            have h := h.pl1
            refine r_chk1 (ldOk_blk h.pl4 0 rfl hOv.sz) ?_
            have hT : 0 ≤ IntKind.wrap .u8 (IntKind.wrap .i64 (1 + r23)) ∧ IntKind.wrap .u8 (IntKind.wrap .i64 (1 + r23)) < 256 := by rw [wrapu8]; omega
            refine r_call h (c_spec_PutBlob (c := ⟨IntKind.wrap .u8 (IntKind.wrap .i64 (1 + r23)), x⟩) (hOv.rd h.pl5) ⟨⟨_, r27, x⟩, rfl, rfl, ownS_bytes hO27 h.pl2 (List.sublist_append_left _ _) hx, hT.1, hT.2⟩ (by omega) (by unfold sizeBlob; dsimp only; omega)) fun r29 w53 _ _ ⟨Lr, hLr, hOr, hkr, hcr⟩ => ?_
            have h := (h.join hLr).pl1
            exact fin_ h.pl6.pl2.pl4.pl6.pl6.pl6.pl6 hOr hkr hcr h0 (by omega) nx_
        · refine r_new h fun b6 w54 h => ?_
          have h : At w0 w54 ([(b6, #[.slice none 0 0], ty_impl_Store)] ++ ([(b, srcC sd a st, ty_spec_l00Src)] ++ ([(b7, Array.replicate 32 (.int .u8 0), ty_impl_Key)] ++ ([(b3, g, ty_impl_Store), (b2, #[.slice none 0 0], ty_impl_Store)] ++ (Lv ++ rest))))) := h
          have h := h.pl1
          refine r_chk1 (ldOk_blk h.pl3 0 rfl hOv.sz) ?_
          refine r_callR (c_l06Bytes (rest := [(b6, #[.slice none 0 0], ty_impl_Store)] ++ ([(b7, Array.replicate 32 (.int .u8 0), ty_impl_Key)] ++ ([(b3, g, ty_impl_Store), (b2, #[.slice none 0 0], ty_impl_Store)] ++ (Lv ++ rest)))) ⟨a, st, h0, h1, h⟩ hd hb (by omega)) ?_
          rintro v w55 ⟨r27, x, L27, rfl, hx, hxl, hO27, a, st, h0, h1, h⟩
          refine ⟨r27, rfl, ?_⟩
          have h : At w0 w55 ([(b, srcC sd a st, ty_spec_l00Src)] ++ (L27 ++ ([(b6, #[.slice none 0 0], ty_impl_Store)] ++ ([(b7, Array.replicate 32 (.int .u8 0), ty_impl_Key)] ++ ([(b3, g, ty_impl_Store), (b2, #[.slice none 0 0], ty_impl_Store)] ++ (Lv ++ rest)))))) := h
          refine r_chk1 (ldOk_blk h.pl4 0 rfl hOv.sz) ?_
          refine r_pur (sh := .agg) _ (run_mkBlob _ r27) ?_
          have hT : 0 ≤ IntKind.wrap .u8 (IntKind.wrap .i64 (1 + r23)) ∧ IntKind.wrap .u8 (IntKind.wrap .i64 (1 + r23)) < 256 := by rw [wrapu8]; omega
          refine r_call h (c_spec_PutBlob (c := ⟨IntKind.wrap .u8 (IntKind.wrap .i64 (1 + r23)), x⟩) (hOv.rd h.pl5) ⟨⟨_, r27, x⟩, rfl, rfl, ownS_bytes hO27 h.pl1 (List.sublist_append_left _ _) hx, hT.1, hT.2⟩ (by omega) (by unfold sizeBlob; dsimp only; omega)) fun r29 w56 _ _ ⟨Lr, hLr, hOr, hkr, hcr⟩ => ?_
          have h := (h.join hLr).pl1
          exact fin_ h.pl6.pl2.pl3.pl6.pl6.pl6.pl6 hOr hkr hcr h0 (by omega) nx_
    · refine r_new h fun b6 w57 h => ?_
      have h : At w0 w57 ([(b6, #[.slice none 0 0], ty_impl_Store)] ++ ([(b, srcC sd a st, ty_spec_l00Src)] ++ ([(b3, g, ty_impl_Store), (b2, #[.slice none 0 0], ty_impl_Store)] ++ (Lv ++ rest)))) := h
      have h := h.pl1
      refine r_chk1 (ldOk_blk h.pl2 0 rfl hOv.sz) ?_
      refine r_all2 ?_ ?_
      · refine r_callR (c_pick (rest := [(b6, #[.slice none 0 0], ty_impl_Store)] ++ ([(b3, g, ty_impl_Store), (b2, #[.slice none 0 0], ty_impl_Store)] ++ (Lv ++ rest))) 2 ⟨a, st, h0, h1, h⟩ hd hb (by omega) (by omega) (by omega)) ?_
        rintro v w58 ⟨r23, rfl, hq0, hq1, a, st, h0, h1, h⟩
        refine ⟨r23, rfl, ?_⟩
        have h : At w0 w58 ([(b, srcC sd a st, ty_spec_l00Src)] ++ ([(b6, #[.slice none 0 0], ty_impl_Store)] ++ ([(b3, g, ty_impl_Store), (b2, #[.slice none 0 0], ty_impl_Store)] ++ (Lv ++ rest)))) := h
        refine r_chk1 (ldOk_blk h.pl2 0 rfl hOv.sz) ?_
        refine r_all2 ?_ ?_
        · refine r_callR (c_l06Bytes (rest := [(b6, #[.slice none 0 0], ty_impl_Store)] ++ ([(b3, g, ty_impl_Store), (b2, #[.slice none 0 0], ty_impl_Store)] ++ (Lv ++ rest))) ⟨a, st, h0, h1, h⟩ hd hb (by omega)) ?_
          rintro v w59 ⟨r27, x, L27, rfl, hx, hxl, hO27, a, st, h0, h1, h⟩
          refine ⟨r27, rfl, ?_⟩
          have h : At w0 w59 ([(b, srcC sd a st, ty_spec_l00Src)] ++ (L27 ++ ([(b6, #[.slice none 0 0], ty_impl_Store)] ++ ([(b3, g, ty_impl_Store), (b2, #[.slice none 0 0], ty_impl_Store)] ++ (Lv ++ rest))))) := h
          refine r_chk1 (ldOk_blk h.pl3 0 rfl hOv.sz) ?_
          refine r_pur (sh := .agg) _ (run_mkBlob _ r27) ?_
          refine r_all2 ?_ ?_
          · have hT : 0 ≤ IntKind.wrap .u8 (IntKind.wrap .i64 (1 + r23)) ∧ IntKind.wrap .u8 (IntKind.wrap .i64 (1 + r23)) < 256 := by rw [wrapu8]; omega
            refine r_call h (c_spec_PutBlob (c := ⟨IntKind.wrap .u8 (IntKind.wrap .i64 (1 + r23)), x⟩) (hOv.rd h.pl4) ⟨⟨_, r27, x⟩, rfl, rfl, ownS_bytes hO27 h.pl1 (List.sublist_append_left _ _) hx, hT.1, hT.2⟩ (by omega) (by unfold sizeBlob; dsimp only; omega)) fun r29 w60 _ _ ⟨Lr, hLr, hOr, hkr, hcr⟩ => ?_
            have h := (h.join hLr).pl1
            refine r_new h fun b7 w61 h => ?_
            have h : At w0 w61 ([(b7, Array.replicate 32 (.int .u8 0), ty_impl_Key)] ++ ([(b, srcC sd a st, ty_spec_l00Src)] ++ (Lr ++ (L27 ++ ([(b6, #[.slice none 0 0], ty_impl_Store)] ++ ([(b3, g, ty_impl_Store), (b2, #[.slice none 0 0], ty_impl_Store)] ++ (Lv ++ rest))))))) := h
            have h := h.pl1
            exact fin_ h.pl6.pl3.pl4.pl6.pl5.pl6.pl6 hOr hkr hcr h0 (by omega) nx_
          · refine r_new h fun b7 w62 h => ?_
            have h : At w0 w62 ([(b7, Array.replicate 32 (.int .u8 0), ty_impl_Key)] ++ ([(b, srcC sd a st, ty_spec_l00Src)] ++ (L27 ++ ([(b6, #[.slice none 0 0], ty_impl_Store)] ++ ([(b3, g, ty_impl_Store), (b2, #[.slice none 0 0], ty_impl_Store)] ++ (Lv ++ rest)))))) := h
            have h := h.pl1
            refine r_chk1 (ldOk_blk h.pl4 0 rfl hOv.sz) ?_
            have hT : 0 ≤ IntKind.wrap .u8 (IntKind.wrap .i64 (1 + r23)) ∧ IntKind.wrap .u8 (IntKind.wrap .i64 (1 + r23)) < 256 := by rw [wrapu8]; omega
            refine r_call h (c_spec_PutBlob (c := ⟨IntKind.wrap .u8 (IntKind.wrap .i64 (1 + r23)), x⟩) (hOv.rd h.pl5) ⟨⟨_, r27, x⟩, rfl, rfl, ownS_bytes hO27 h.pl2 (List.sublist_append_left _ _) hx, hT.1, hT.2⟩ (by omega) (by unfold sizeBlob; dsimp only; omega)) fun r29 w63 _ _ ⟨Lr, hLr, hOr, hkr, hcr⟩ => ?_
            have h := (h.join hLr).pl1
            exact fin_ h.pl6.pl2.pl4.pl6.pl5.pl6.pl6 hOr hkr hcr h0 (by omega) nx_
        · refine r_new h fun b7 w64 h => ?_
          have h : At w0 w64 ([(b7, Array.replicate 32 (.int .u8 0), ty_impl_Key)] ++ ([(b, srcC sd a st, ty_spec_l00Src)] ++ ([(b6, #[.slice none 0 0], ty_impl_Store)] ++ ([(b3, g, ty_impl_Store), (b2, #[.slice none 0 0], ty_impl_Store)] ++ (Lv ++ rest))))) := h
          have h := h.pl1
          refine r_chk1 (ldOk_blk h.pl3 0 rfl hOv.sz) ?_
          refine r_callR (c_l06Bytes (rest := [(b7, Array.replicate 32 (.int .u8 0), ty_impl_Key)] ++ ([(b6, #[.slice none 0 0], ty_impl_Store)] ++ ([(b3, g, ty_impl_Store), (b2, #[.slice none 0 0], ty_impl_Store)] ++ (Lv ++ rest)))) ⟨a, st, h0, h1, h⟩ hd hb (by omega)) ?_
          rintro v w65 ⟨r27, x, L27, rfl, hx, hxl, hO27, a, st, h0, h1, h⟩
          refine ⟨r27, rfl, ?_⟩
          have h : At w0 w65 ([(b, srcC sd a st, ty_spec_l00Src)] ++ (L27 ++ ([(b7, Array.replicate 32 (.int .u8 0), ty_impl_Key)] ++ ([(b6, #[.slice none 0 0], ty_impl_Store)] ++ ([(b3, g, ty_impl_Store), (b2, #[.slice none 0 0], ty_impl_Store)] ++ (Lv ++ rest)))))) := h
          refine r_chk1 (ldOk_blk h.pl4 0 rfl hOv.sz) ?_
          refine r_pur (sh := .agg) _ (run_mkBlob _ r27) ?_
          have hT : 0 ≤ IntKind.wrap .u8 (IntKind.wrap .i64 (1 + r23)) ∧ IntKind.wrap .u8 (IntKind.wrap .i64 (1 + r23)) < 256 := by rw [wrapu8]; omega
          refine r_call h (c_spec_PutBlob (c := ⟨IntKind.wrap .u8 (IntKind.wrap .i64 (1 + r23)), x⟩) (hOv.rd h.pl5) ⟨⟨_, r27, x⟩, rfl, rfl, ownS_bytes hO27 h.pl1 (List.sublist_append_left _ _) hx, hT.1, hT.2⟩ (by omega) (by unfold sizeBlob; dsimp only; omega)) fun r29 w66 _ _ ⟨Lr, hLr, hOr, hkr, hcr⟩ => ?_
          have h := (h.join hLr).pl1
          exact fin_ h.pl6.pl2.pl3.pl6.pl5.pl6.pl6 hOr hkr hcr h0 (by omega) nx_
      · refine r_new h fun b7 w67 h => ?_
        have h : At w0 w67 ([(b7, Array.replicate 32 (.int .u8 0), ty_impl_Key)] ++ ([(b, srcC sd a st, ty_spec_l00Src)] ++ ([(b6, #[.slice none 0 0], ty_impl_Store)] ++ ([(b3, g, ty_impl_Store), (b2, #[.slice none 0 0], ty_impl_Store)] ++ (Lv ++ rest))))) := h
        have h := h.pl1
        refine r_chk1 (ldOk_blk h.pl3 0 rfl hOv.sz) ?_
        refine r_callR (c_pick (rest := [(b7, Array.replicate 32 (.int .u8 0), ty_impl_Key)] ++ ([(b6, #[.slice none 0 0], ty_impl_Store)] ++ ([(b3, g, ty_impl_Store), (b2, #[.slice none 0 0], ty_impl_Store)] ++ (Lv ++ rest)))) 2 ⟨a, st, h0, h1, h⟩ hd hb (by omega) (by omega) (by omega)) ?_
        rintro v w68 ⟨r23, rfl, hq0, hq1, a, st, h0, h1, h⟩
        refine ⟨r23, rfl, ?_⟩
        have h : At w0 w68 ([(b, srcC sd a st, ty_spec_l00Src)] ++ ([(b7, Array.replicate 32 (.int .u8 0), ty_impl_Key)] ++ ([(b6, #[.slice none 0 0], ty_impl_Store)] ++ ([(b3, g, ty_impl_Store), (b2, #[.slice none 0 0], ty_impl_Store)] ++ (Lv ++ rest))))) := h
        refine r_chk1 (ldOk_blk h.pl3 0 rfl hOv.sz) ?_
        refine r_callR (c_l06Bytes (rest := [(b7, Array.replicate 32 (.int .u8 0), ty_impl_Key)] ++ ([(b6, #[.slice none 0 0], ty_impl_Store)] ++ ([(b3, g, ty_impl_Store), (b2, #[.slice none 0 0], ty_impl_Store)] ++ (Lv ++ rest)))) ⟨a, st, h0, h1, h⟩ hd hb (by omega)) ?_
        rintro v w69 ⟨r27, x, L27, rfl, hx, hxl, hO27, a, st, h0, h1, h⟩
        refine ⟨r27, rfl, ?_⟩
        have h : At w0 w69 ([(b, srcC sd a st, ty_spec_l00Src)] ++ (L27 ++ ([(b7, Array.replicate 32 (.int .u8 0), ty_impl_Key)] ++ ([(b6, #[.slice none 0 0], ty_impl_Store)] ++ ([(b3, g, ty_impl_Store), (b2, #[.slice none 0 0], ty_impl_Store)] ++ (Lv ++ rest)))))) := h
        refine r_chk1 (ldOk_blk h.pl4 0 rfl hOv.sz) ?_
        refine r_pur (sh := .agg) _ (run_mkBlob _ r27) ?_
        have hT : 0 ≤ IntKind.wrap .u8 (IntKind.wrap .i64 (1 + r23)) ∧ IntKind.wrap .u8 (IntKind.wrap .i64 (1 + r23)) < 256 := by rw [wrapu8]; omega
        refine r_call h (c_spec_PutBlob (c := ⟨IntKind.wrap .u8 (IntKind.wrap .i64 (1 + r23)), x⟩) (hOv.rd h.pl5) ⟨⟨_, r27, x⟩, rfl, rfl, ownS_bytes hO27 h.pl1 (List.sublist_append_left _ _) hx, hT.1, hT.2⟩ (by omega) (by unfold sizeBlob; dsimp only; omega)) fun r29 w70 _ _ ⟨Lr, hLr, hOr, hkr, hcr⟩ => ?_
        have h := (h.join hLr).pl1
        exact fin_ h.pl6.pl2.pl3.pl6.pl5.pl6.pl6 hOr hkr hcr h0 (by omega) nx_
    · refine r_new h fun b7 w71 h => ?_
      have h : At w0 w71 ([(b7, Array.replicate 32 (.int .u8 0), ty_impl_Key)] ++ ([(b, srcC sd a st, ty_spec_l00Src)] ++ ([(b3, g, ty_impl_Store), (b2, #[.slice none 0 0], ty_impl_Store)] ++ (Lv ++ rest)))) := h
      have h := h.pl1
      refine r_chk1 (ldOk_blk h.pl2 0 rfl hOv.sz) ?_
      refine r_all2 ?_ ?_
      · refine r_callR (c_pick (rest := [(b7, Array.replicate 32 (.int .u8 0), ty_impl_Key)] ++ ([(b3, g, ty_impl_Store), (b2, #[.slice none 0 0], ty_impl_Store)] ++ (Lv ++ rest))) 2 ⟨a, st, h0, h1, h⟩ hd hb (by omega) (by omega) (by omega)) ?_
        rintro v w72 ⟨r23, rfl, hq0, hq1, a, st, h0, h1, h⟩
        refine ⟨r23, rfl, ?_⟩
        have h : At w0 w72 ([(b, srcC sd a st, ty_spec_l00Src)] ++ ([(b7, Array.replicate 32 (.int .u8 0), ty_impl_Key)] ++ ([(b3, g, ty_impl_Store), (b2, #[.slice none 0 0], ty_impl_Store)] ++ (Lv ++ rest)))) := h
        refine r_chk1 (ldOk_blk h.pl2 0 rfl hOv.sz) ?_
        refine r_all2 ?_ ?_
        · refine r_callR (c_l06Bytes (rest := [(b7, Array.replicate 32 (.int .u8 0), ty_impl_Key)] ++ ([(b3, g, ty_impl_Store), (b2, #[.slice none 0 0], ty_impl_Store)] ++ (Lv ++ rest))) ⟨a, st, h0, h1, h⟩ hd hb (by omega)) ?_
          rintro v w73 ⟨r27, x, L27, rfl, hx, hxl, hO27, a, st, h0, h1, h⟩
          refine ⟨r27, rfl, ?_⟩
          have h : At w0 w73 ([(b, srcC sd a st, ty_spec_l00Src)] ++ (L27 ++ ([(b7, Array.replicate 32 (.int .u8 0), ty_impl_Key)] ++ ([(b3, g, ty_impl_Store), (b2, #[.slice none 0 0], ty_impl_Store)] ++ (Lv ++ rest))))) := h
          refine r_chk1 (ldOk_blk h.pl3 0 rfl hOv.sz) ?_
          refine r_pur (sh := .agg) _ (run_mkBlob _ r27) ?_
          refine r_all2 ?_ ?_
          · have hT : 0 ≤ IntKind.wrap .u8 (IntKind.wrap .i64 (1 + r23)) ∧ IntKind.wrap .u8 (IntKind.wrap .i64 (1 + r23)) < 256 := by rw [wrapu8]; omega
            refine r_call h (c_spec_PutBlob (c := ⟨IntKind.wrap .u8 (IntKind.wrap .i64 (1 + r23)), x⟩) (hOv.rd h.pl4) ⟨⟨_, r27, x⟩, rfl, rfl, ownS_bytes hO27 h.pl1 (List.sublist_append_left _ _) hx, hT.1, hT.2⟩ (by omega) (by unfold sizeBlob; dsimp only; omega)) fun r29 w74 _ _ ⟨Lr, hLr, hOr, hkr, hcr⟩ => ?_
            have h := (h.join hLr).pl1
            refine r_new h fun b6 w75 h => ?_
            have h : At w0 w75 ([(b6, #[.slice none 0 0], ty_impl_Store)] ++ ([(b, srcC sd a st, ty_spec_l00Src)] ++ (Lr ++ (L27 ++ ([(b7, Array.replicate 32 (.int .u8 0), ty_impl_Key)] ++ ([(b3, g, ty_impl_Store), (b2, #[.slice none 0 0], ty_impl_Store)] ++ (Lv ++ rest))))))) := h
            have h := h.pl1
            exact fin_ h.pl6.pl3.pl4.pl6.pl6.pl6.pl6 hOr hkr hcr h0 (by omega) nx_
          · refine r_new h fun b6 w76 h => ?_
            have h : At w0 w76 ([(b6, #[.slice none 0 0], ty_impl_Store)] ++ ([(b, srcC sd a st, ty_spec_l00Src)] ++ (L27 ++ ([(b7, Array.replicate 32 (.int .u8 0), ty_impl_Key)] ++ ([(b3, g, ty_impl_Store), (b2, #[.slice none 0 0], ty_impl_Store)] ++ (Lv ++ rest)))))) := h
            have h := h.pl1
            refine r_chk1 (ldOk_blk h.pl4 0 rfl hOv.sz) ?_
            have hT : 0 ≤ IntKind.wrap .u8 (IntKind.wrap .i64 (1 + r23)) ∧ IntKind.wrap .u8 (IntKind.wrap .i64 (1 + r23)) < 256 := by rw [wrapu8]; omega
            refine r_call h (c_spec_PutBlob (c := ⟨IntKind.wrap .u8 (IntKind.wrap .i64 (1 + r23)), x⟩) (hOv.rd h.pl5) ⟨⟨_, r27, x⟩, rfl, rfl, ownS_bytes hO27 h.pl2 (List.sublist_append_left _ _) hx, hT.1, hT.2⟩ (by omega) (by unfold sizeBlob; dsimp only; omega)) fun r29 w77 _ _ ⟨Lr, hLr, hOr, hkr, hcr⟩ => ?_
            have h := (h.join hLr).pl1
            exact fin_ h.pl6.pl2.pl4.pl6.pl6.pl6.pl6 hOr hkr hcr h0 (by omega) nx_
        · refine r_new h fun b6 w78 h => ?_
          have h : At w0 w78 ([(b6, #[.slice none 0 0], ty_impl_Store)] ++ ([(b, srcC sd a st, ty_spec_l00Src)] ++ ([(b7, Array.replicate 32 (.int .u8 0), ty_impl_Key)] ++ ([(b3, g, ty_impl_Store), (b2, #[.slice none 0 0], ty_impl_Store)] ++ (Lv ++ rest))))) := h
          have h := h.pl1
          refine r_chk1 (ldOk_blk h.pl3 0 rfl hOv.sz) ?_
          refine r_callR (c_l06Bytes (rest := [(b6, #[.slice none 0 0], ty_impl_Store)] ++ ([(b7, Array.replicate 32 (.int .u8 0), ty_impl_Key)] ++ ([(b3, g, ty_impl_Store), (b2, #[.slice none 0 0], ty_impl_Store)] ++ (Lv ++ rest)))) ⟨a, st, h0, h1, h⟩ hd hb (by omega)) ?_
          rintro v w79 ⟨r27, x, L27, rfl, hx, hxl, hO27, a, st, h0, h1, h⟩
          refine ⟨r27, rfl, ?_⟩
          have h : At w0 w79 ([(b, srcC sd a st, ty_spec_l00Src)] ++ (L27 ++ ([(b6, #[.slice none 0 0], ty_impl_Store)] ++ ([(b7, Array.replicate 32 (.int .u8 0), ty_impl_Key)] ++ ([(b3, g, ty_impl_Store), (b2, #[.slice none 0 0], ty_impl_Store)] ++ (Lv ++ rest)))))) := h
          refine r_chk1 (ldOk_blk h.pl4 0 rfl hOv.sz) ?_
          refine r_pur (sh := .agg) _ (run_mkBlob _ r27) ?_
          have hT : 0 ≤ IntKind.wrap .u8 (IntKind.wrap .i64 (1 + r23)) ∧ IntKind.wrap .u8 (IntKind.wrap .i64 (1 + r23)) < 256 := by rw [wrapu8]; omega
          refine r_call h (c_spec_PutBlob (c := ⟨IntKind.wrap .u8 (IntKind.wrap .i64 (1 + r23)), x⟩) (hOv.rd h.pl5) ⟨⟨_, r27, x⟩, rfl, rfl, ownS_bytes hO27 h.pl1 (List.sublist_append_left _ _) hx, hT.1, hT.2⟩ (by omega) (by unfold sizeBlob; dsimp only; omega)) fun r29 w80 _ _ ⟨Lr, hLr, hOr, hkr, hcr⟩ => ?_
          have h := (h.join hLr).pl1
          exact fin_ h.pl6.pl2.pl3.pl6.pl6.pl6.pl6 hOr hkr hcr h0 (by omega) nx_
      · refine r_new h fun b6 w81 h => ?_
        have h : At w0 w81 ([(b6, #[.slice none 0 0], ty_impl_Store)] ++ ([(b, srcC sd a st, ty_spec_l00Src)] ++ ([(b7, Array.replicate 32 (.int .u8 0), ty_impl_Key)] ++ ([(b3, g, ty_impl_Store), (b2, #[.slice none 0 0], ty_impl_Store)] ++ (Lv ++ rest))))) := h
        have h := h.pl1
        refine r_chk1 (ldOk_blk h.pl3 0 rfl hOv.sz) ?_
        refine r_callR (c_pick (rest := [(b6, #[.slice none 0 0], ty_impl_Store)] ++ ([(b7, Array.replicate 32 (.int .u8 0), ty_impl_Key)] ++ ([(b3, g, ty_impl_Store), (b2, #[.slice none 0 0], ty_impl_Store)] ++ (Lv ++ rest)))) 2 ⟨a, st, h0, h1, h⟩ hd hb (by omega) (by omega) (by omega)) ?_
        rintro v w82 ⟨r23, rfl, hq0, hq1, a, st, h0, h1, h⟩
        refine ⟨r23, rfl, ?_⟩
        have h : At w0 w82 ([(b, srcC sd a st, ty_spec_l00Src)] ++ ([(b6, #[.slice none 0 0], ty_impl_Store)] ++ ([(b7, Array.replicate 32 (.int .u8 0), ty_impl_Key)] ++ ([(b3, g, ty_impl_Store), (b2, #[.slice none 0 0], ty_impl_Store)] ++ (Lv ++ rest))))) := h
        refine r_chk1 (ldOk_blk h.pl3 0 rfl hOv.sz) ?_
        refine r_callR (c_l06Bytes (rest := [(b6, #[.slice none 0 0], ty_impl_Store)] ++ ([(b7, Array.replicate 32 (.int .u8 0), ty_impl_Key)] ++ ([(b3, g, ty_impl_Store), (b2, #[.slice none 0 0], ty_impl_Store)] ++ (Lv ++ rest)))) ⟨a, st, h0, h1, h⟩ hd hb (by omega)) ?_
        rintro v w83 ⟨r27, x, L27, rfl, hx, hxl, hO27, a, st, h0, h1, h⟩
        refine ⟨r27, rfl, ?_⟩
        have h : At w0 w83 ([(b, srcC sd a st, ty_spec_l00Src)] ++ (L27 ++ ([(b6, #[.slice none 0 0], ty_impl_Store)] ++ ([(b7, Array.replicate 32 (.int .u8 0), ty_impl_Key)] ++ ([(b3, g, ty_impl_Store), (b2, #[.slice none 0 0], ty_impl_Store)] ++ (Lv ++ rest)))))) := h
        refine r_chk1 (ldOk_blk h.pl4 0 rfl hOv.sz) ?_
        refine r_pur (sh := .agg) _ (run_mkBlob _ r27) ?_
        have hT : 0 ≤ IntKind.wrap .u8 (IntKind.wrap .i64 (1 + r23)) ∧ IntKind.wrap .u8 (IntKind.wrap .i64 (1 + r23)) < 256 := by rw [wrapu8]; omega
        refine r_call h (c_spec_PutBlob (c := ⟨IntKind.wrap .u8 (IntKind.wrap .i64 (1 + r23)), x⟩) (hOv.rd h.pl5) ⟨⟨_, r27, x⟩, rfl, rfl, ownS_bytes hO27 h.pl1 (List.sublist_append_left _ _) hx, hT.1, hT.2⟩ (by omega) (by unfold sizeBlob; dsimp only; omega)) fun r29 w84 _ _ ⟨Lr, hLr, hOr, hkr, hcr⟩ => ?_
        have h := (h.join hLr).pl1
        exact fin_ h.pl6.pl2.pl3.pl6.pl6.pl6.pl6 hOr hkr hcr h0 (by omega) nx_
  · have h : At w0 w6 ([(b, srcC sd a st, ty_spec_l00Src)] ++ ([(b3, g, ty_impl_Store), (b2, #[.slice none 0 0], ty_impl_Store)] ++ (Lv ++ rest))) := h
    refine r_ldA h.pl1 0 rfl rfl hOv.sz ?_
    refine r_stA h.pl1 1 rfl rfl hOv.sz rfl hOv.one fun w7 h => ?_
    have h : At w0 w7 ([(b3, g, ty_impl_Store), (b2, g, ty_impl_Store)] ++ ([(b, srcC sd a st, ty_spec_l00Src)] ++ (Lv ++ rest))) := h
    refine r_ldA h 1 rfl rfl hOv.sz ?_
    exact r_retR ⟨g, B, Lv, rfl, hv, hOv, a, st, h0, by omega, h.right⟩)
theorem c_P6Alike {w : World} {sd : Sl} {d : List Int} (hd : SlAt w sd 1 (u8s d)) (hb : bytesOk d) :
    Ret Tryz.prog n_spec_P6Alike [.slice sd.a sd.n sd.c] w [.agg] (fun r w' => ∃ L B, At w w' L ∧ OwnStore r B L ∧ validS B) := spec_P6Alike_calls _ (by
  unfold spec_P6Alike
  refine r_new (At.refl w) fun b2 w1 h1 => ?_
  refine r_callR (c_l00From sd w1) ?_
  rintro v w2 ⟨b, rfl, hS⟩
  refine ⟨⟨b, 0, none⟩, rfl, ?_⟩
  refine r_callR (c_l06Store hS (hd.at h1) hb (by omega)) ?_
  rintro v w3 ⟨g, B, L, rfl, hv, hO, a, st, h0, h2, h⟩
  refine ⟨g, rfl, ?_⟩
  have h := (h1.join h.tail).swap
  refine r_stA h 0 rfl rfl hO.sz rfl hO.one fun w4 h => ?_
  have h : At w w4 ([(b2, g, ty_impl_Store)] ++ (L ++ [])) := h
  refine r_ldA h 0 rfl rfl hO.sz ?_
  rw [List.append_nil] at h
  exact r_ret h.nil g rfl ⟨L, B, h.right, hO, hv⟩)
end Go.Proofs.YtkifkdkjljcclaaGreat
