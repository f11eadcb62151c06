/- The tree over keys: its key, and the blobs of its nodes. -/
import Derived.Test.YtffedfdhhglmkaaGreatL0
import Derived.Test.YtffedfdhhglmkaaGreatS3
import Derived.Test.YtffedfdhhglmkaaGreatW1
namespace Go.Proofs.YtffedfdhhglmkaaGreat
open Go.Sx Go.RowKit

def keyF : Nat → List (List Int) → List Int
  | 0, _ => zero32
  | f + 1, ks => if ks.length = 0 then hashL 3 [] else if ks.length = 1 then ks.headD zero32 else hashL 2 (keyF f (ks.take (half ks.length)) ++ keyF f (ks.drop (half ks.length)))
theorem keyF_succ (f : Nat) (ks : List (List Int)) : keyF (f + 1) ks = if ks.length = 0 then hashL 3 [] else if ks.length = 1 then ks.headD zero32 else hashL 2 (keyF f (ks.take (half ks.length)) ++ keyF f (ks.drop (half ks.length))) := rfl
theorem keyF_ok : ∀ (f : Nat) (ks : List (List Int)), (∀ k ∈ ks, keyOk k) → keyOk (keyF f ks)
  | 0, _, _ => zero32_ok
  | f + 1, ks, h => by
    rw [keyF_succ]
    split
    · exact ⟨hashL_len _ _, hashL_ok _ _⟩
    split
    · cases ks with
      | nil => exact zero32_ok
      | cons k r => exact h k (by simp)
    · exact ⟨hashL_len _ _, hashL_ok _ _⟩
def nodesF : Nat → List (List Int) → List PB
  | 0, _ => []
  | f + 1, ks => if ks.length < 2 then [] else nodesF f (ks.take (half ks.length)) ++ nodesF f (ks.drop (half ks.length)) ++ [⟨2, keyF f (ks.take (half ks.length)) ++ keyF f (ks.drop (half ks.length))⟩]
theorem nodesF_succ (f : Nat) (ks : List (List Int)) : nodesF (f + 1) ks = if ks.length < 2 then [] else nodesF f (ks.take (half ks.length)) ++ nodesF f (ks.drop (half ks.length)) ++ [⟨2, keyF f (ks.take (half ks.length)) ++ keyF f (ks.drop (half ks.length))⟩] := rfl
theorem nodesF_len : ∀ (f : Nat) (ks : List (List Int)), (nodesF f ks).length ≤ ks.length - 1
  | 0, _ => by simp [nodesF]
  | f + 1, ks => by
    rw [nodesF_succ]
    split
    · simp
    · rename_i h2
      obtain ⟨h3, h4⟩ := half_lt (n := ks.length) (by omega)
      have i1 := nodesF_len f (ks.take (half ks.length))
      have i2 := nodesF_len f (ks.drop (half ks.length))
      rw [List.length_take] at i1
      rw [List.length_drop] at i2
      simp only [List.length_append, List.length_cons, List.length_nil]
      omega
theorem nodesF_ok : ∀ (f : Nat) (ks : List (List Int)), (∀ k ∈ ks, keyOk k) → ∀ b ∈ nodesF f ks, b.tag = 2 ∧ b.data.length = 64 ∧ bytesOk b.data
  | 0, _, _ => by simp [nodesF]
  | f + 1, ks, h => by
    rw [nodesF_succ]
    split
    · simp
    · intro b hb
      have ht : ∀ k ∈ ks.take (half ks.length), keyOk k := fun k hk => h k (List.mem_of_mem_take hk)
      have hd : ∀ k ∈ ks.drop (half ks.length), keyOk k := fun k hk => h k (List.mem_of_mem_drop hk)
      rcases List.mem_append.1 hb with hb | hb
      · rcases List.mem_append.1 hb with hb | hb
        · exact nodesF_ok f _ ht b hb
        · exact nodesF_ok f _ hd b hb
      · rw [List.mem_singleton.1 hb]
        have k1 := keyF_ok f _ ht
        have k2 := keyF_ok f _ hd
        refine ⟨rfl, ?_, ?_⟩
        · dsimp only; rw [List.length_append, k1.1, k2.1]
        · exact k1.2.append k2.2

theorem KsR.sub {w : World} {s : Sl} {ks : List (List Int)} (h : KsR w s ks) (l k : Nat) (h1 : l ≤ k) (h2 : k ≤ s.n) : KsR w ⟨if s.c = l then s.a else s.a.map (·.add (l * 32)), k - l, s.c - l⟩ ((ks.drop l).take (k - l)) := ⟨h.of.sub l k h1 h2, fun x hx => h.ok x (List.mem_of_mem_drop (List.mem_of_mem_take hx))⟩

/-! ### The program -/
theorem c_sizeKeyL (s : Sl) : RetP Tryz.prog n_impl_size_impl_Key [.slice s.a s.n s.c] [.int .i64] (s.n : Int) := fun w => impl_size_impl_Key_calls s (by
  unfold impl_size_impl_Key
  exact r_retP rfl)
theorem c_PairKeyL (tag : Int) {a b : List Int} (ka : keyOk a) (kb : keyOk b) (w : World) :
    Ret Tryz.prog n_impl_PairKey [.int .u8 tag, .agg (u8s a).toArray, .agg (u8s b).toArray] w [.agg] (fun cs _ => cs = (u8s (hashL tag (a ++ b))).toArray) := impl_PairKey_calls tag _ _ (by
  unfold impl_PairKey
  obtain ⟨ha, hab⟩ := ka
  obtain ⟨hb, hbb⟩ := kb
  refine r_new (At.refl w) fun b4 w1 h => ?_
  refine r_new h fun b5 w2 h => ?_
  refine r_new h fun b6 w3 h => ?_
  refine r_draw h fun w4 h => ?_
  refine r_sl 0 32 rfl rfl (by omega) (by omega) ?_
  refine r_sl 0 32 rfl rfl (by omega) (by omega) ?_
  refine r_bs2 T_sl_sl_uint8 h rfl rfl (by omega) fun x w5 hx hxn => ?_
  have z32 : ¬ 32 = 0 := by omega
  have h5 := hx.at_
  have l1 : SlAt w5 ⟨some ⟨b4, 0, none⟩, 32, 32⟩ 1 (u8s a) := h5.sl 2 rfl rfl (by simp [ha]) (List.take_of_length_le (Nat.le_refl _))
  have l2 : SlAt w5 ⟨some ⟨b5, 0, none⟩, 32, 32⟩ 1 (u8s b) := h5.sl 1 rfl rfl (by simp [hb]) (List.take_of_length_le (Nat.le_refl _))
  refine r_callS h5 (c_Concat2 (y1 := ⟨some ⟨b4, 0, none⟩, 32, 32⟩) (y2 := ⟨some ⟨b5, 0, none⟩, 32, 32⟩) (by simpa [Value.cells, z32, add_lit] using hx.sl) l1 l2 (by omega) (by omega)) fun y w6 hy hyn => ?_
  refine r_call hy.at_ (c_hash tag hy.sl (hab.append hbb) (by simp [ha, hb])) fun k w8 h8 _ hk => ?_
  subst hk
  refine r_stA h8 0 rfl rfl (by simp [hashL_len]) (by simp [Value.cells]) (by simpa using u8s_one) fun w9 h9 => ?_
  refine r_ldA h9 0 rfl rfl (by simp [hashL_len]) ?_
  exact r_ret h9 _ rfl rfl)
theorem c_NodeKeyL {a b : List Int} (ka : keyOk a) (kb : keyOk b) (w : World) :
    Ret Tryz.prog n_impl_NodeKey [.agg (u8s a).toArray, .agg (u8s b).toArray] w [.agg] (fun cs _ => cs = (u8s (hashL 2 (a ++ b))).toArray) := impl_NodeKey_calls _ _ (by
  unfold impl_NodeKey
  refine r_new (At.refl w) fun b4 w1 h => ?_
  refine r_new h fun b5 w2 h => ?_
  refine r_new h fun b6 w3 h => ?_
  refine r_ldA h 2 rfl rfl (by simp [Value.cells, ka.1]) ?_
  refine r_ldA h 1 rfl rfl (by simp [Value.cells, kb.1]) ?_
  refine r_call h (c_PairKeyL 2 ka kb w3) fun k w8 h8 _ hk => ?_
  subst hk
  refine r_stA h8 0 rfl rfl (by simp [hashL_len]) (by simp [Value.cells]) (by simpa using u8s_one) fun w9 h9 => ?_
  refine r_ldA h9 0 rfl rfl (by simp [hashL_len]) ?_
  exact r_ret h9 _ rfl rfl)

theorem c_listKeyL : ∀ (f : Nat) {s : Sl} {ks : List (List Int)} {w : World}, KsR w s ks → ks.length < f → ks.length ≤ 65536 → Ret Tryz.prog n_impl_listKey [.slice s.a s.n s.c] w [.agg] (fun r _ => r = (u8s (keyF f ks)).toArray)
  | 0, _, _, _, _, h, _ => by omega
  | f + 1, s, ks, w, hs, hf, hm => impl_listKey_calls _ (by
    unfold impl_listKey
    have hn := hs.n
    have hcap := hs.of.cap
    have hko := keyF_ok (f + 1) ks hs.ok
    generalize hT : keyF (f + 1) ks = T at hko
    rw [keyF_succ] at hT
    refine r_new (At.refl w) fun b2 w1 h => ?_
    refine r_callp (c_sizeKeyL s) ?_
    refine r_eq (fun h0 => ?_) (fun h0 => ?_)
    · refine r_call h (c_hash 3 (s := ⟨none, 0, 0⟩) (d := []) ⟨by simp [u8s], fun j v hv => by simp [u8s] at hv⟩ (fun b hb => by cases hb) (by simp)) fun k w2 h _ hk => ?_
      subst hk
      rw [if_pos (by omega)] at hT
      rw [hT]
      refine r_stA h 0 rfl rfl (by simp [hko.1]) (by simp [Value.cells]) (by simpa using u8s_one) fun w9 h9 => ?_
      refine r_ldA h9 0 rfl rfl (by simp [hko.1]) ?_
      exact r_ret h9 _ rfl rfl
    rw [if_neg (by omega)] at hT
    refine r_eq (fun h1 => ?_) (fun h1 => ?_)
    · rw [if_pos (by omega)] at hT
      obtain ⟨k, p, hk, _, hp, _, hag⟩ := (hs.at h).get (i := 0) (by omega)
      have hkT : k = T := by
        cases ks with
        | nil => simp at hk
        | cons x r => simp at hk; rw [← hk]; exact hT
      subst hkT
      refine r_ix p hp (by omega) (by omega) ?_
      refine r_ldN (u8s k).toArray hag ?_
      refine r_stA h 0 rfl rfl (by simp [hko.1]) (by simp [Value.cells]) (by simpa using u8s_one) fun w9 h9 => ?_
      refine r_ldA h9 0 rfl rfl (by simp [hko.1]) ?_
      exact r_ret h9 _ rfl rfl
    · rw [if_neg (by omega)] at hT
      obtain ⟨hh1, hh2⟩ := half_lt (n := ks.length) (by omega)
      rw [show s.n = ks.length from hn]
      refine r_callp (c_leftOf ks.length (by omega) (by omega)) ?_
      refine r_draw h fun w2 h => ?_
      refine r_sl 0 (half ks.length) rfl rfl (by omega) (by omega) ?_
      refine r_sl (half ks.length) ks.length rfl rfl (by omega) (by omega) ?_
      have hs1 := (hs.at h).sub 0 (half ks.length) (by omega) (by omega)
      rw [List.drop_zero, Nat.sub_zero] at hs1
      have hs2 := (hs.at h).sub (half ks.length) ks.length (by omega) (by omega)
      rw [List.take_of_length_le (by rw [List.length_drop]; omega)] at hs2
      refine r_call h (c_listKeyL f hs1 (by rw [List.length_take]; omega) (by rw [List.length_take]; omega)) fun k1 w3 h3 hb3 hk1 => ?_
      subst hk1
      refine r_call h3 (c_listKeyL f (hs2.below hb3) (by rw [List.length_drop]; omega) (by rw [List.length_drop]; omega)) fun k2 w4 h _ hk2 => ?_
      subst hk2
      refine r_call h (c_NodeKeyL (keyF_ok f _ hs1.ok) (keyF_ok f _ hs2.ok) w4) fun k w5 h _ hk => ?_
      subst hk
      rw [hT]
      refine r_stA h 0 rfl rfl (by simp [hko.1]) (by simp [Value.cells]) (by simpa using u8s_one) fun w9 h9 => ?_
      refine r_ldA h9 0 rfl rfl (by simp [hko.1]) ?_
      exact r_ret h9 _ rfl rfl)

/-- Blobs in new memory. -/
def NewBs (w : World) (r : Sl) (B : List PB) (w' : World) : Prop := ∃ (cs : List BR) (Lb Ld : List Blk), At w w' (Lb ++ (Ld ++ [])) ∧ OwnS ty_impl_Blob 2 r (cs.flatMap BR.cells) Lb ∧ OwnData cs Ld ∧ cs.map BR.pb = B
theorem c_listBlobs : ∀ (f : Nat) {s : Sl} {ks : List (List Int)} {w : World}, KsR w s ks → ks.length < f → ks.length ≤ 65536 → Ret Tryz.prog n_impl_listBlobs [.slice s.a s.n s.c] w [.slice] (fun r w' => NewBs w r (nodesF f ks) w')
  | 0, _, _, _, _, h, _ => by omega
  | f + 1, s, ks, w, hs, hf, hm => impl_listBlobs_calls _ (by
    unfold impl_listBlobs
    have hn := hs.n
    have hcap := hs.of.cap
    refine r_callp (c_sizeKeyL s) ?_
    rw [show s.n = ks.length from hn]
    refine r_if ((ks.length : Int) < 2) rfl (fun hlt => ?_) (fun hge => ?_)
    · rw [nodesF_succ, if_pos (by omega)]
      exact r_ret (At.refl w) (⟨none, 0, 0⟩ : Sl) rfl ⟨[], [], [], At.refl w, OwnS.nil _ _, .nil, rfl⟩
    obtain ⟨hh1, hh2⟩ := half_lt (n := ks.length) (by omega)
    generalize hN : nodesF (f + 1) ks = N
    rw [nodesF_succ, if_neg (by omega)] at hN
    refine r_callp (c_leftOf ks.length (by omega) (by omega)) ?_
    have k1 := keyF_ok f (ks.take (half ks.length)) (fun k hk => hs.ok k (List.mem_of_mem_take hk))
    have k2 := keyF_ok f (ks.drop (half ks.length)) (fun k hk => hs.ok k (List.mem_of_mem_drop hk))
    generalize hK1 : keyF f (ks.take (half ks.length)) = K1 at hN k1
    generalize hK2 : keyF f (ks.drop (half ks.length)) = K2 at hN k2
    have sub1 : ∀ {w' : World} {ls : List Blk}, At w w' ls → KsR w' ⟨if s.c = 0 then s.a else s.a.map (·.add (0 * 32)), half ks.length - 0, s.c - 0⟩ (ks.take (half ks.length)) := fun h => by
      have hs1 := (hs.at h).sub 0 (half ks.length) (by omega) (by omega)
      rw [List.drop_zero, Nat.sub_zero] at hs1
      exact hs1
    have sub2 : ∀ {w' : World} {ls : List Blk}, At w w' ls → KsR w' ⟨if s.c = half ks.length then s.a else s.a.map (·.add (half ks.length * 32)), ks.length - half ks.length, s.c - half ks.length⟩ (ks.drop (half ks.length)) := fun h => by
      have hs2 := (hs.at h).sub (half ks.length) ks.length (by omega) (by omega)
      rw [List.take_of_length_le (by rw [List.length_drop]; omega)] at hs2
      exact hs2
    refine r_join (σ := Addr × Addr) (fun x w' => ∃ b5 b6, x = (⟨b5, 0, none⟩, ⟨b6, 0, none⟩) ∧ At w w' [(b6, (u8s K2).toArray, ty_impl_Key), (b5, (u8s K1).toArray, ty_impl_Key)]) (fun x w1 hJ => ?_) ?_
    · obtain ⟨b5, b6, rfl, h⟩ := hJ
      refine r_any fun _ => ?_
      dsimp only
      refine r_joinI ?_
      refine r_draw h fun w2 h => ?_
      refine r_sl 0 (half ks.length) rfl rfl (by omega) (by omega) ?_
      refine r_sl (half ks.length) ks.length rfl rfl (by omega) (by omega) ?_
      refine r_call h (c_listBlobs f (sub1 h) (by rw [List.length_take]; omega) (by rw [List.length_take]; omega)) fun r25 w3 _ _ ⟨cs1, Lb1, Ld1, hL1, hO1, hD1, hp1⟩ => ?_
      have h : At w w3 (Lb1 ++ (Ld1 ++ [(b6, (u8s K2).toArray, ty_impl_Key), (b5, (u8s K1).toArray, ty_impl_Key)])) := by simpa [List.append_assoc] using h.join hL1
      refine r_call h (c_listBlobs f (sub2 h) (by rw [List.length_drop]; omega) (by rw [List.length_drop]; omega)) fun r29 w4 _ _ ⟨cs2, Lb2, Ld2, hL2, hO2, hD2, hp2⟩ => ?_
      have h : At w w4 (Lb2 ++ (Ld2 ++ (Lb1 ++ (Ld1 ++ [(b6, (u8s K2).toArray, ty_impl_Key), (b5, (u8s K1).toArray, ty_impl_Key)])))) := by simpa [List.append_assoc] using h.join hL2
      have hl1 : cs1.length ≤ 65536 := by
        have := nodesF_len f (ks.take (half ks.length))
        rw [← hp1, List.length_map, List.length_take] at this
        omega
      have hl2 : cs2.length ≤ 65536 := by
        have := nodesF_len f (ks.drop (half ks.length))
        rw [← hp2, List.length_map, List.length_drop] at this
        omega
      have hn1 : r25.n = cs1.length := by have := hO1.1; rw [flatMap_length (z := 2) (fun x _ => cells_len x)] at this; omega
      have hn2 : r29.n = cs2.length := by have := hO2.1; rw [flatMap_length (z := 2) (fun x _ => cells_len x)] at this; omega
      have one : ∀ cs : List BR, ∀ v ∈ cs.flatMap BR.cells, oneC v = true := fun cs v hv => by
        obtain ⟨c, _, hc⟩ := List.mem_flatMap.1 hv
        exact cells_one c v hc
      refine r_append T_sl_Blob (hO1.slo h.pl2) (hO2.sl h (List.sublist_append_left _ _)) (one _) (by omega) (by omega) fun y30 w5 hS hn30 => ?_
      obtain ⟨Lb3, hO3, h⟩ := hS.split
      have h : At w w5 (Lb3 ++ (Lb2 ++ (Ld2 ++ (Ld1 ++ [(b6, (u8s K2).toArray, ty_impl_Key), (b5, (u8s K1).toArray, ty_impl_Key)])))) := h
      have h := h.dr1
      refine ⟨y30, rfl, ?_⟩
      refine r_any fun _ => ?_
      refine r_draw h fun w6 h => ?_
      refine r_sl 0 32 rfl rfl (by omega) (by omega) ?_
      refine r_sl 0 32 rfl rfl (by omega) (by omega) ?_
      refine r_bs2 T_sl_sl_uint8 h rfl rfl (by omega) fun x w7 hx hxn => ?_
      obtain ⟨Lx, hOx, h⟩ := hx.split
      have h : At w w7 (Lx ++ (Lb3 ++ (Ld2 ++ (Ld1 ++ ([(b6, (u8s K2).toArray, ty_impl_Key), (b5, (u8s K1).toArray, ty_impl_Key)] ++ []))))) := by simpa using h
      have h5 := h.pl4
      have z32 : ¬ 32 = 0 := by omega
      have l1 : SlAt w7 ⟨some ⟨b5, 0, none⟩, 32, 32⟩ 1 (u8s K1) := h5.sl 1 rfl rfl (by simp [k1.1]) (List.take_of_length_le (Nat.le_refl _))
      have l2 : SlAt w7 ⟨some ⟨b6, 0, none⟩, 32, 32⟩ 1 (u8s K2) := h5.sl 0 rfl rfl (by simp [k2.1]) (List.take_of_length_le (Nat.le_refl _))
      have hk1 := k1.1
      have hk2 := k2.1
      refine r_callS h (c_Concat2 (y1 := ⟨some ⟨b5, 0, none⟩, 32, 32⟩) (y2 := ⟨some ⟨b6, 0, none⟩, 32, 32⟩) (by simpa [Value.cells, z32, add_lit] using hx.sl) l1 l2 (by omega) (by omega)) fun y w8 hy hyn => ?_
      obtain ⟨Ly, hOy, h⟩ := hy.split
      refine r_pur (sh := .agg) _ (run_mkBlob 2 y) ?_
      refine r_bs1 T_sl_Blob h rfl (by omega) fun y37 w9 hb hbn => ?_
      obtain ⟨L37, hO37, h⟩ := hb.split
      have h : At w w9 (L37 ++ (Ly ++ (Lx ++ (Lb3 ++ (Ld2 ++ (Ld1 ++ ([(b6, (u8s K2).toArray, ty_impl_Key), (b5, (u8s K1).toArray, ty_impl_Key)] ++ []))))))) := h
      refine r_append T_sl_Blob (hO3.slo h.pl3) (hO37.sl h (List.sublist_append_left _ _)) (by simp [Value.cells, oneC]) (by omega) (by omega) fun y38 w10 hS hn38 => ?_
      obtain ⟨Lb4, hO4, h⟩ := hS.split
      have h : At w w10 (Lb4 ++ (L37 ++ (Ly ++ (Lx ++ (Ld2 ++ (Ld1 ++ ([(b6, (u8s K2).toArray, ty_impl_Key), (b5, (u8s K1).toArray, ty_impl_Key)] ++ []))))))) := h
      have h : At w w10 (Lb4 ++ (Ly ++ (Ld2 ++ (Ld1 ++ [])))) := h.dr6.dr1.dr2
      have h : At w w10 (Lb4 ++ (Ld1 ++ (Ld2 ++ (Ly ++ [])))) := h.pl1.pl2.pl3.pl3
      refine r_ret h.nil y38 rfl ⟨cs1 ++ cs2 ++ [⟨2, y, K1 ++ K2⟩], Lb4, Ld1 ++ (Ld2 ++ Ly), by simpa [List.append_assoc] using h, ?_, ?_, ?_⟩
      · rw [List.flatMap_append, List.flatMap_append]
        simpa [Value.cells, BR.cells] using hO4
      · rw [← List.append_assoc]
        exact (hD1.append hD2).snoc (b := ⟨2, y, K1 ++ K2⟩) hOy
      · rw [List.map_append, List.map_append, hp1, hp2, ← hN]
        rfl
    · refine r_draw (At.refl w) fun w2 h => ?_
      refine r_sl 0 (half ks.length) rfl rfl (by omega) (by omega) ?_
      refine r_sl (half ks.length) ks.length rfl rfl (by omega) (by omega) ?_
      generalize (⟨if s.c = 0 then s.a else s.a.map (·.add (0 * 32)), half ks.length - 0, s.c - 0⟩ : Sl) = y16 at sub1 ⊢
      generalize (⟨if s.c = half ks.length then s.a else s.a.map (·.add (half ks.length * 32)), ks.length - half ks.length, s.c - half ks.length⟩ : Sl) = y20 at sub2 ⊢
      have kL1 : ∀ {w' : World} {ls : List Blk}, At w w' ls → Ret Tryz.prog n_impl_listKey [.slice y16.a y16.n y16.c] w' [.agg] (fun r _ => r = (u8s K1).toArray) := fun h => by
        rw [← hK1]
        exact c_listKeyL f (sub1 h) (by rw [List.length_take]; omega) (by rw [List.length_take]; omega)
      have kL2 : ∀ {w' : World} {ls : List Blk}, At w w' ls → Ret Tryz.prog n_impl_listKey [.slice y20.a y20.n y20.c] w' [.agg] (fun r _ => r = (u8s K2).toArray) := fun h => by
        rw [← hK2]
        exact c_listKeyL f (sub2 h) (by rw [List.length_drop]; omega) (by rw [List.length_drop]; omega)
      have fin1 : ∀ {w' : World} {b5 b6 : Nat}, At w w' [(b6, Array.replicate 32 (.int .u8 0), ty_impl_Key), (b5, Array.replicate 32 (.int .u8 0), ty_impl_Key)] →
          ((real Tryz.prog (RR w [.slice] (fun r w' => NewBs w r N w'))).st 32 (Addr.mk b5 0 none) (.agg (u8s K1).toArray) <| (real Tryz.prog (RR w [.slice] (fun r w' => NewBs w r N w'))).st 32 (Addr.mk b6 0 none) (.agg (u8s K2).toArray) <| fun w'' => ∃ s', embL [.ptr, .ptr] s' = [Value.pointer (some (Addr.mk b5 0 none)), Value.pointer (some (Addr.mk b6 0 none))] ∧ ∃ b5 b6, s' = ((⟨b5, 0, none⟩, ⟨b6, 0, none⟩) : Addr × Addr) ∧ At w w'' [(b6, (u8s K2).toArray, ty_impl_Key), (b5, (u8s K1).toArray, ty_impl_Key)]) w' := by
        intro w' b5 b6 h
        refine r_stA h 1 rfl rfl (by simp [k1.1]) (by simp) (by simpa using u8s_one) fun w3 h => ?_
        refine r_stA h 0 rfl rfl (by simp [k2.1]) (by simp) (by simpa using u8s_one) fun w4 h => ?_
        exact ⟨(⟨b5, 0, none⟩, ⟨b6, 0, none⟩), rfl, b5, b6, rfl, h⟩
      have fin2 : ∀ {w' : World} {b5 b6 : Nat}, At w w' [(b5, Array.replicate 32 (.int .u8 0), ty_impl_Key), (b6, Array.replicate 32 (.int .u8 0), ty_impl_Key)] →
          ((real Tryz.prog (RR w [.slice] (fun r w' => NewBs w r N w'))).st 32 (Addr.mk b5 0 none) (.agg (u8s K1).toArray) <| (real Tryz.prog (RR w [.slice] (fun r w' => NewBs w r N w'))).st 32 (Addr.mk b6 0 none) (.agg (u8s K2).toArray) <| fun w'' => ∃ s', embL [.ptr, .ptr] s' = [Value.pointer (some (Addr.mk b5 0 none)), Value.pointer (some (Addr.mk b6 0 none))] ∧ ∃ b5 b6, s' = ((⟨b5, 0, none⟩, ⟨b6, 0, none⟩) : Addr × Addr) ∧ At w w'' [(b6, (u8s K2).toArray, ty_impl_Key), (b5, (u8s K1).toArray, ty_impl_Key)]) w' := by
        intro w' b5 b6 h
        refine r_stA h 0 rfl rfl (by simp [k1.1]) (by simp) (by simpa using u8s_one) fun w3 h => ?_
        refine r_stA h 1 rfl rfl (by simp [k2.1]) (by simp) (by simpa using u8s_one) fun w4 h => ?_
        exact ⟨(⟨b5, 0, none⟩, ⟨b6, 0, none⟩), rfl, b5, b6, rfl, h.perm (List.Perm.swap _ _ _)⟩
      generalize n_impl_listKey = nL at kL1 kL2 ⊢
      generalize Tryz.prog = PP at kL1 kL2 fin1 fin2 ⊢
      repeat' first
        | exact fin1 h
        | exact fin2 h
        | refine r_new h fun _ _ h => ?_
        | (refine r_call h (kL1 h) fun _ _ h _ hr => ?_; subst hr)
        | (refine r_call h (kL2 h) fun _ _ h _ hr => ?_; subst hr)
        | refine r_all3 ?_ ?_ ?_
        | refine r_all2 ?_ ?_)
end Go.Proofs.YtffedfdhhglmkaaGreat
