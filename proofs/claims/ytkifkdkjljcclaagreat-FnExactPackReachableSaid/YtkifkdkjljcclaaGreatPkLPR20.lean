/- The program: a store with its keys, what is found in it, a store in new memory, some of the blobs. The reference: blobs, keys, a store with its keys. -/
import Derived.Test.YtkifkdkjljcclaaGreatPkLPR19
namespace Go.Proofs.YtkifkdkjljcclaaGreat
open Go.Sx Go.RowKit

theorem flatCells_one (bs : List BR) : ∀ v ∈ bs.flatMap BR.cells, oneC v = true := by
  intro v hv
  obtain ⟨b, _, hb⟩ := List.mem_flatMap.1 hv
  exact cells_one b v hb

theorem c_CloneBlobs {w : World} {s : Sl} {bs : List BR} (hs : BsR w s bs) (hmax : bs.length ≤ 1073741824) : Ret Tryz.prog n_slices_Clone_sl_impl_Blob_impl_Blob [.slice s.a s.n s.c] w [.slice] (fun r w' => SlO w w' [] ty_impl_Blob 2 r (bs.flatMap BR.cells) ∧ r.n = bs.length) := slices_Clone_sl_impl_Blob_impl_Blob_calls s (by
  unfold slices_Clone_sl_impl_Blob_impl_Blob
  have hn := hs.n
  refine r_pur _ (fun w' => run_eql_sl (e := ty_impl_Blob) (by kernel_rfl) _ _ _ _ _ w') ?_
  cases ha : s.a with
  | none =>
    refine r_true rfl ?_
    have : bs = [] := by
      cases bs with
      | nil => rfl
      | cons k r => obtain ⟨p, hp, _⟩ := hs.of.cell (i := 0) rfl; rw [ha] at hp; cases hp
    subst this
    exact r_ret (At.refl w) ⟨none, 0, 0⟩ rfl ⟨SlO.nil (At.refl w) _ _, rfl⟩
  | some p =>
    refine r_false (by simp) ?_
    refine r_bs0 T_sl_Blob (At.refl w) fun y w1 hy hyn => ?_
    have hs1 : SlAt w1 ⟨some p, s.n, s.c⟩ 2 (bs.flatMap BR.cells) := by have := (hs.at hy.at_).of.sl; rw [← ha]; exact this
    refine r_append T_sl_Blob hy (y := ⟨some p, s.n, s.c⟩) hs1 (flatCells_one bs) (by dsimp only; omega) (by dsimp only; omega) fun y' w2 hy' hyn' => ?_
    dsimp only at hyn'
    exact r_ret hy'.at_ y' rfl ⟨by simpa using hy', by omega⟩)

structure ShopR (w : World) (p : Addr) (ks : List (List Int)) (bs : List BR) : Prop where
  ex : ∃ sk sb, (∀ n, ldOk w n (p.add 0) .slice sk) ∧ (∀ n, ldOk w n (p.add 1) .slice sb) ∧ KsR w sk ks ∧ BsR w sb bs
theorem ShopR.below {w w' : World} {p : Addr} {ks : List (List Int)} {bs : List BR} (h : ShopR w p ks bs) (hb : Below w.heap.size w w') : ShopR w' p ks bs :=
  let ⟨sk, sb, h1, h2, h3, h4⟩ := h.ex
  ⟨sk, sb, fun n => ldOk_below hb (h1 n), fun n => ldOk_below hb (h2 n), h3.below hb, h4.below hb⟩
theorem ShopR.at {w w' : World} {ls : List Blk} {p : Addr} {ks : List (List Int)} {bs : List BR} (h : ShopR w p ks bs) (hA : At w w' ls) : ShopR w' p ks bs := h.below hA.below

def ShopO (b : Nat) (ks : List (List Int)) (bs : List BR) (L : List Blk) : Prop := ∃ sk sb Lk Lb, L = (b, #[.slice sk.a sk.n sk.c, .slice sb.a sb.n sb.c], ty_impl_shop) :: (Lk ++ Lb) ∧ OwnS ty_impl_Key 32 sk (ks.flatMap u8s) Lk ∧ OwnS ty_impl_Blob 2 sb (bs.flatMap BR.cells) Lb
theorem ShopO.rd {w0 w : World} {b : Nat} {ks : List (List Int)} {bs : List BR} {L ls : List Blk} (h : ShopO b ks bs L) (hA : At w0 w (L ++ ls)) (hk : ∀ k ∈ ks, keyOk k) (hb : ∀ b ∈ bs, b.Ok w) : ShopR w ⟨b, 0, none⟩ ks bs := by
  obtain ⟨sk, sb, Lk, Lb, rfl, h1, h2⟩ := h
  refine ⟨sk, sb, fun n => ldOk_own hA 0 rfl 0 rfl (by simp [Sh.emb]), fun n => ldOk_own hA 0 rfl 1 rfl (by simp [Sh.emb]), ownS_ks h1 hA ?_ hk, ⟨h2.of hA ?_ (fun b _ => cells_len b) (by omega), hb⟩⟩
  · exact ((List.sublist_append_left _ _).trans (List.sublist_cons_self _ _)).trans (List.sublist_append_left _ _)
  · exact ((List.sublist_append_right _ _).trans (List.sublist_cons_self _ _)).trans (List.sublist_append_left _ _)

theorem run_mkShop (s t : Sl) (w : World) : (Instr.build ty_impl_shop #[(0, (.slice s.a s.n s.c)), (1, (.slice t.a t.n t.c))]).run Tryz.prog w = .ok (.agg #[.slice s.a s.n s.c, .slice t.a t.n t.c]) w := by kernel_rfl
theorem run_noShop (w : World) : (Instr.build ty_impl_shop #[]).run Tryz.prog w = .ok (.agg #[.slice none 0 0, .slice none 0 0]) w := by kernel_rfl
theorem run_noStore (w : World) : (Instr.build ty_impl_Store #[]).run Tryz.prog w = .ok (.agg #[.slice none 0 0]) w := by kernel_rfl

theorem c_newShop {w : World} {s : Sl} {bs : List BR} (hs : BsR w s bs) (hmax : bs.length ≤ 1073741824) : Ret Tryz.prog n_impl_newShop [.agg #[.slice s.a s.n s.c]] w [.optr, .bool]
    (fun r w' => (validS (bs.map BR.pb) ∧ ∃ b L, r = (some ⟨b, 0, none⟩, true) ∧ At w w' L ∧ ShopO b (keysOf (bs.map BR.pb)) bs L) ∨ (¬ validS (bs.map BR.pb) ∧ r = (none, false))) := impl_newShop_calls _ (by
  unfold impl_newShop
  refine r_new (At.refl w) fun b1 w1 h => ?_
  refine r_ldA h 0 rfl rfl rfl ?_
  refine r_call h (c_ValidStore (hs.at h) hmax) fun r w2 h _ hr => ?_
  subst hr
  by_cases hv : validS (bs.map BR.pb)
  · rw [decide_eq_true hv]
    refine r_false rfl ?_
    refine r_draw h fun w3 h => ?_
    refine r_ldA h 0 rfl rfl rfl ?_
    refine r_ld h 0 rfl (add_lit _ _ _) s (by simp [Sh.emb]) (by simp [Value.cells, Sh.emb]) ?_
    refine r_call h (c_Store_keys (hs.at h) hmax (fun b hb => by have := hv.2.1 b.pb (List.mem_map_of_mem hb); simp only [BR.pb] at this; omega)) fun k w4 h4 _ ⟨hk, hkn⟩ => ?_
    obtain ⟨Lk, hOk, hA⟩ := SlO.own_of h hk
    have hA := hA.swap
    refine r_chk1 (ldOk_own hA 0 rfl 0 rfl (by simp [Sh.emb])) ?_
    refine r_call hA (c_CloneBlobs (hs.at hA.nil) hmax) fun y w5 h5 _ ⟨hy, hyn⟩ => ?_
    obtain ⟨Lb, hOb, hB⟩ := SlO.own_of hA hy
    refine r_pur (sh := .agg) _ (run_mkShop k y) ?_
    have hC : At w w5 (Lk ++ Lb) := (hB.take (Lb ++ Lk) (List.Sublist.append_left (List.sublist_append_right _ _) _)).swap
    refine r_new hC fun b13 w6 h6 => ?_
    exact r_ret h6.nil (_, _) rfl (.inl ⟨hv, b13, _, rfl, h6, k, y, Lk, Lb, rfl, hOk, hOb⟩)
  · rw [decide_eq_false hv]
    refine r_true rfl ?_
    exact r_ret h (_, _) rfl (.inr ⟨hv, rfl⟩))

theorem c_find {w : World} {p : Addr} {ks : List (List Int)} {bs : List BR} {k : List Int} (hs : ShopR w p ks bs) (ha : Asc ks) (hk : keyOk k) (hmax : ks.length ≤ 1073741824) :
    Ret Tryz.prog n_ptr_impl_shop_find [.pointer (some p), .agg (u8s k).toArray] w [.int .i64, .bool] (fun r _ => r = ((posK ks k : Int), decide (k ∈ ks))) := ptr_impl_shop_find_calls _ _ (by
  unfold ptr_impl_shop_find
  obtain ⟨sk, sb, h1, h2, h3, h4⟩ := hs.ex
  refine r_new (At.refl w) fun b3 w1 h => ?_
  refine r_draw h fun w2 h => ?_
  refine r_ldO h sk (h1 1) (by simp) ?_
  refine r_ldA h 0 rfl rfl (by simp [Value.cells, hk.1]) ?_
  refine r_call h (c_Search (h3.at h) ha hk hmax) fun r w3 h3 _ hr => ?_
  subst hr
  exact r_ret h3 (_, _) rfl rfl)

theorem c_has {w : World} {p : Addr} {ks : List (List Int)} {bs : List BR} {k : List Int} (hs : ShopR w p ks bs) (ha : Asc ks) (hk : keyOk k) (hmax : ks.length ≤ 1073741824) :
    Ret Tryz.prog n_ptr_impl_shop_has [.pointer (some p), .agg (u8s k).toArray] w [.bool] (fun r _ => r = decide (k ∈ ks)) := ptr_impl_shop_has_calls _ _ (by
  unfold ptr_impl_shop_has
  refine r_new (At.refl w) fun b3 w1 h => ?_
  refine r_ldA h 0 rfl rfl (by simp [Value.cells, hk.1]) ?_
  refine r_call h (c_find (hs.at h) ha hk hmax) fun r w3 h3 _ hr => ?_
  subst hr
  exact r_ret h3 _ rfl rfl)

theorem c_get {w : World} {p : Addr} {ks : List (List Int)} {bs : List BR} {k : List Int} (hs : ShopR w p ks bs) (ha : Asc ks) (hl : ks.length = bs.length) (hk : keyOk k) (hmax : ks.length ≤ 1073741824) :
    Ret Tryz.prog n_ptr_impl_shop_get [.pointer (some p), .agg (u8s k).toArray] w [.agg, .bool] (fun r _ => (k ∈ ks ∧ ∃ b, bs[posK ks k]? = some b ∧ r = (b.cells.toArray, true)) ∨ (k ∉ ks ∧ r = (#[.int .u8 0, .slice none 0 0], false))) := ptr_impl_shop_get_calls _ _ (by
  unfold ptr_impl_shop_get
  obtain ⟨sk, sb, h1, h2, h3, h4⟩ := hs.ex
  refine r_new (At.refl w) fun b3 w1 h => ?_
  refine r_new h fun b4 w2 h => ?_
  refine r_ldA h 1 rfl rfl (by simp [Value.cells, hk.1]) ?_
  refine r_call h (c_find (hs.at h) ha hk hmax) fun r w3 h _ hr => ?_
  subst hr
  by_cases hm : k ∈ ks
  · dsimp only
    rw [decide_eq_true hm]
    refine r_false rfl ?_
    refine r_ldO h sb (h2 1) (by simp) ?_
    have hp := (posK_mem ha).1 hm
    have hlt := (List.getElem?_eq_some_iff.1 hp).1
    obtain ⟨b, q, hb, hbm, hq, hok, hag, _, _⟩ := (h4.at h).get (i := posK ks k) (by omega)
    have hn := h4.n
    refine r_ix q hq (by omega) (by omega) ?_
    refine r_ldN b.cells.toArray (by simp only [Int.toNat_natCast]; exact hag) ?_
    refine r_stA h 0 rfl rfl rfl rfl (by simpa using cells_one b) fun w4 h => ?_
    refine r_ldA h 0 rfl rfl rfl ?_
    exact r_ret h.nil (_, _) rfl (.inl ⟨hm, b, hb, rfl⟩)
  · dsimp only
    rw [decide_eq_false hm]
    refine r_true rfl ?_
    refine r_pur (sh := .agg) _ run_noBlob ?_
    refine r_stA h 0 rfl rfl rfl rfl (by simp [oneC]) fun w4 h => ?_
    refine r_ldA h 0 rfl rfl rfl ?_
    exact r_ret h.nil (_, _) rfl (.inr ⟨hm, rfl⟩))

theorem c_store {w : World} {p : Addr} {sb : Sl} {bs : List BR} (hp : ∀ n, ldOk w n (p.add 1) .slice sb) (hs : BsR w sb bs) (hmax : bs.length ≤ 1073741824) (hd : ∀ b ∈ bs, b.data.length ≤ 35184372088832) :
    Ret Tryz.prog n_ptr_impl_shop_store [.pointer (some p)] w [.agg] (fun r w' => ∃ (t : Sl) (bs' : List BR) (L : List Blk), r = #[.slice t.a t.n t.c] ∧ bs'.map BR.pb = bs.map BR.pb ∧ At w w' L ∧ OwnBs t bs' L) := ptr_impl_shop_store_calls _ (by
  unfold ptr_impl_shop_store
  have hn := hs.n
  refine r_new (At.refl w) fun b2 w1 h => ?_
  refine r_pur (sh := .agg) _ run_noStore ?_
  refine r_new h fun b3 w2 h => ?_
  refine r_stA h 0 rfl rfl rfl rfl (by simp [oneC]) fun w3 h => ?_
  refine r_ldO h sb (hp 1) (by simp) ?_
  refine r_loop (σ := Int) (fun i w' => ∃ (j : Nat) (t : Sl) (bs' : List BR) (Lb Ld : List Blk), i = j ∧ j ≤ bs.length ∧ t.n = j ∧ bs'.map BR.pb = (bs.map BR.pb).take j ∧ OwnS ty_impl_Blob 2 t (bs'.flatMap BR.cells) Lb ∧ OwnData bs' Ld ∧
      At w w' ([(b3, #[.slice t.a t.n t.c], ty_impl_Store), (b2, #[.slice none 0 0], ty_impl_Store)] ++ (Lb ++ Ld))) (fun i _ => (sb.n - i).toNat) 0 rfl
    ⟨0, ⟨none, 0, 0⟩, [], [], [], rfl, by omega, rfl, by simp, OwnS.nil _ _, .nil, h⟩ ?_
  rintro i w4 ⟨j, t, bs', Lb, Ld, rfl, hj, htn, hpb, hO, hD, h⟩
  refine r_any fun _ => ?_
  refine r_if ((j : Int) < (sb.n : Int)) rfl (fun hlt => ?_) (fun hge => ?_)
  · obtain ⟨b, q, hb, hbm, hq, hok, hag, _, _⟩ := (hs.at h.nil).get (i := j) (by omega)
    refine r_ix q hq (by omega) (by omega) ?_
    refine r_ldN b.cells.toArray (by simp only [Int.toNat_natCast]; exact hag) ?_
    refine r_new h fun b5 w5 h5 => ?_
    refine r_stA h5 0 rfl rfl rfl rfl (by simpa using cells_one b) fun w6 h6 => ?_
    refine r_draw h6 fun w7 h7 => ?_
    refine r_ld h7 1 rfl (add_lit _ _ _) t (by simp [Sh.emb]) rfl ?_
    refine r_ldA h7 0 rfl rfl rfl ?_
    have h7 := At.tail h7
    refine r_call h7 (c_copied ((hs.at h7.nil).ok b hbm) (hd b hbm)) fun r w8 _ _ ⟨b', L', hr, hpb', hL', hO'⟩ => ?_
    subst hr
    have h8 : At w w8 ([(b3, #[.slice t.a t.n t.c], ty_impl_Store), (b2, #[.slice none 0 0], ty_impl_Store)] ++ (Lb ++ (Ld ++ L'))) := by simpa [List.append_assoc] using (h7.join hL').swap
    refine r_chk1 (ldOk_own h8 0 rfl 0 rfl (by simp [Sh.emb])) ?_
    refine r_bs1A T_sl_Blob h8 (by simp [Value.cells, BR.cells]) (by omega) fun y w9 h9 _ hy hyn => ?_
    refine r_chk1 (ldOk_own h9 0 rfl 0 rfl (by simp [Sh.emb])) ?_
    have h9' : At w w9 (Lb ++ ((Ld ++ L') ++ [(b3, #[.slice t.a t.n t.c], ty_impl_Store), (b2, #[.slice none 0 0], ty_impl_Store)])) := by simpa [List.append_assoc] using h9.swap
    refine r_append T_sl_Blob (hO.slo h9') hy (by simpa [Value.cells] using cells_one b') (by omega) (by omega) fun t' w10 hS10 hn10 => ?_
    obtain ⟨Lb', hO10, hA10⟩ := hS10.split
    have h10 : At w w10 ([(b3, #[.slice t.a t.n t.c], ty_impl_Store), (b2, #[.slice none 0 0], ty_impl_Store)] ++ (Lb' ++ (Ld ++ L'))) := by
      rw [← List.append_assoc] at hA10
      exact hA10.swap
    refine r_st h10 0 (o := 0) rfl (add_lit _ _ _) (by simp) rfl fun w11 h11 => ?_
    refine ⟨((j + 1 : Nat) : Int), by rw [w64 (by omega) (by omega)]; rfl, ⟨j + 1, t', bs' ++ [b'], Lb', Ld ++ L', rfl, by omega, by omega, ?_, ?_, hD.snoc hO', ?_⟩, by omega⟩
    · rw [List.map_append, hpb, take_succ_get (show (bs.map BR.pb)[j]? = some b.pb by simp [hb])]
      simp [hpb']
    · rw [List.flatMap_append]
      simpa [Value.cells] using hO10
    · exact h11
  · have : j = bs.length := by omega
    subst this
    rw [List.take_of_length_le (by simp)] at hpb
    refine r_ldA h 0 rfl rfl rfl ?_
    refine r_stA h 1 rfl rfl rfl rfl (by simp [oneC]) fun w5 h5 => ?_
    refine r_ldA h5 1 rfl rfl rfl ?_
    exact r_ret h5.nil _ rfl ⟨t, bs', Lb ++ Ld, rfl, hpb, h5.right (A := [_, _]), Lb, Ld, rfl, hO, hD⟩)

theorem c_kept {w : World} {p : Addr} {ks : List (List Int)} {bs : List BR} (hs : ShopR w p ks bs) (hkb : ks = keysOf (bs.map BR.pb)) (hmax : bs.length ≤ 1073741824) (hd : ∀ b ∈ bs, b.data.length ≤ 35184372088832)
    {g : FuncId} {cap : Array Value} (hg : isGo Tryz.prog g = true) (f : List Int → Bool) (hf : ∀ (w' : World) (k : List Int), Below w.heap.size w w' → keyOk k → Ret Tryz.prog g ((#[] : Array Value).toList ++ [.agg (u8s k).toArray] ++ cap.toList) w' [.bool] (fun r _ => r = f k)) :
    Ret Tryz.prog n_ptr_impl_shop_kept [.pointer (some p), .func (.func g) #[] cap] w [.agg] (fun r w' => ∃ (t : Sl) (bs' : List BR) (L : List Blk), r = #[.slice t.a t.n t.c] ∧ bs'.map BR.pb = (bs.map BR.pb).filter (fun b => f b.key) ∧ At w w' L ∧ OwnBs t bs' L) := ptr_impl_shop_kept_calls _ _ (by
  unfold ptr_impl_shop_kept
  obtain ⟨sk, sb, e1, e2, hK, hB⟩ := hs.ex
  have hkn := hK.n
  have hbn := hB.n
  have hkl : ks.length = bs.length := by rw [hkb]; simp [keysOf]
  refine r_new (At.refl w) fun b4 w1 h => ?_
  refine r_pur (sh := .agg) _ run_noShop ?_
  refine r_new h fun b9 w2 h => ?_
  refine r_ldO h sk (e1 1) (by simp) ?_
  refine r_loop (σ := Int) (fun i w' => ∃ (j : Nat) (t : Sl) (Lb : List Blk), i = j ∧ j ≤ bs.length ∧ t.n ≤ j ∧ OwnS ty_impl_Blob 2 t (((bs.take j).filter fun b => f b.pb.key).flatMap BR.cells) Lb ∧
      At w w' ([(b9, #[.slice none 0 0, .slice t.a t.n t.c], ty_impl_shop), (b4, #[.slice none 0 0], ty_impl_Store)] ++ Lb)) (fun i _ => (sk.n - i).toNat) 0 rfl
    ⟨0, ⟨none, 0, 0⟩, [], rfl, by omega, Nat.le_refl _, OwnS.nil _ _, h⟩ ?_
  rintro i w4 ⟨j, t, Lb, rfl, hj, htn, hO, h⟩
  refine r_any fun _ => ?_
  refine r_if ((j : Int) < (sk.n : Int)) rfl (fun hlt => ?_) (fun hge => ?_)
  · obtain ⟨k, q, hk, hkm, hq, hko, hkl⟩ := (hK.at h.nil).get (i := j) (by omega)
    obtain ⟨b, hb⟩ : ∃ b, bs[j]? = some b := ⟨_, List.getElem?_eq_getElem (show j < bs.length by omega)⟩
    have hkey : k = b.pb.key := by
      rw [hkb] at hk
      simp only [keysOf, List.getElem?_map, hb, Option.map_some] at hk
      exact (Option.some.inj hk).symm
    refine r_ix q hq (by omega) (by omega) ?_
    refine r_ldN (u8s k).toArray (by simp only [Int.toNat_natCast]; exact hkl) ?_
    refine r_new h fun b7 w5 h5 => ?_
    refine r_stA h5 0 rfl rfl (by simp [hko.1]) (by simp [Value.cells]) (by simpa using u8s_one) fun w6 h6 => ?_
    refine r_ldA h6 0 rfl rfl (by simp [hko.1]) ?_
    have h6 := At.tail h6
    refine r_callV h6 hg (hf w6 k h6.below hko) fun r w7 h7 _ hr => ?_
    subst hr
    have htk : (bs.take (j + 1)).filter (fun b => f b.pb.key) = (bs.take j).filter (fun b => f b.pb.key) ++ if f k then [b] else [] := by
      rw [take_succ_get hb, List.filter_append, hkey]
      cases hfk : f b.pb.key <;> simp [hfk]
    refine r_cond (fun ht => ?_) (fun ht => ?_)
    · rw [ht, if_pos rfl] at htk
      refine r_draw h7 fun w8 h8 => ?_
      refine r_ld h8 0 rfl (add_lit _ _ _) t (by simp [Sh.emb]) rfl ?_
      refine r_ldO h8 sb (e2 1) (by simp) ?_
      obtain ⟨b', q', hb', hbm', hq', hok', hag', _, _⟩ := (hB.at h8.nil).get (i := j) (by omega)
      rw [hb] at hb'
      cases hb'
      refine r_ix q' hq' (by omega) (by omega) ?_
      refine r_ldN b.cells.toArray (by simp only [Int.toNat_natCast]; exact hag') ?_
      refine r_bs1A T_sl_Blob h8 (by simp [Value.cells, BR.cells]) (by omega) fun y w9 h9 _ hy hyn => ?_
      have c1 : ldOk w9 1 (p.add 1) .slice sb := ldOk_below (h9.below) (e2 1)
      refine r_chk2 ?_ ?_ ?_
      · exact c1
      · exact ldOk_own h9 0 rfl 1 rfl (by simp [Sh.emb])
      refine r_append T_sl_Blob (hO.slo h9.swap) hy (by simpa [Value.cells] using cells_one b) (by omega) (by omega) fun t' w10 hS10 hn10 => ?_
      obtain ⟨Lb', hO10, hA10⟩ := hS10.split
      have hA10 := hA10.swap
      refine r_chk1 (ldOk_below hA10.below (e2 1)) ?_
      refine r_st hA10 0 (o := 1) rfl (add_lit _ _ _) (by simp) rfl fun w11 h11 => ?_
      refine ⟨((j + 1 : Nat) : Int), by rw [w64 (by omega) (by omega)]; rfl, ⟨j + 1, t', Lb', rfl, by omega, by omega, ?_, h11⟩, by omega⟩
      rw [htk, List.flatMap_append]
      simpa [Value.cells] using hO10
    · rw [ht, if_neg (by simp), List.append_nil] at htk
      exact ⟨((j + 1 : Nat) : Int), by rw [w64 (by omega) (by omega)]; rfl, ⟨j + 1, t, Lb, rfl, by omega, by omega, by rw [htk]; exact hO, h7⟩, by omega⟩
  · have : j = bs.length := by omega
    subst this
    rw [List.take_of_length_le (Nat.le_refl _)] at hO
    have hrd : BsR w4 t (bs.filter fun b => f b.pb.key) := ⟨hO.of h (List.sublist_append_right _ _) (fun b _ => cells_len b) (by omega), fun b hb => (hB.at h.nil).ok b ((List.mem_filter.1 hb).1)⟩
    refine r_call h (c_store (p := ⟨b9, 0, none⟩) (fun n => ldOk_own h 0 rfl 1 rfl (by simp [Sh.emb])) hrd (by have := List.length_filter_le (fun b => f (BR.pb b).key) bs; omega) (fun b hb => hd b ((List.mem_filter.1 hb).1))) fun r w5 _ _ ⟨t', bs', L', hr, hpb, hL', hO'⟩ => ?_
    subst hr
    have h5 := (h.join hL').swap
    refine r_stA h5 1 rfl rfl rfl rfl (by simp [oneC]) fun w6 h6 => ?_
    refine r_ldA h6 1 rfl rfl rfl ?_
    exact r_ret h6.nil _ rfl ⟨t', bs', L', rfl, by rw [hpb, List.filter_map]; rfl, h6.right (A := _ :: _ :: Lb), hO'⟩)

end Go.Proofs.YtkifkdkjljcclaaGreat

namespace Go.Proofs.YtkifkdkjljcclaaGreat
open Go.Sx Go.RowKit

structure BAt (w : World) (p : Addr) (b : BR) : Prop where
  tag : ∀ n, ldOk w n (p.add 0) (.int .u8) b.tag
  d : ∀ n, ldOk w n (p.add 1) .slice b.d
  ok : b.Ok w
theorem BAt.below {w w' : World} {p : Addr} {b : BR} (h : BAt w p b) (hb : Below w.heap.size w w') : BAt w' p b := ⟨fun n => ldOk_below hb (h.tag n), fun n => ldOk_below hb (h.d n), h.ok.below hb⟩
theorem BsR.bat {w : World} {s : Sl} {bs : List BR} (hs : BsR w s bs) {i : Nat} (hi : i < bs.length) : ∃ b p, bs[i]? = some b ∧ b ∈ bs ∧ s.a = some p ∧ BAt w (p.add (i * 2)) b ∧ ldOk w 2 (p.add (i * 2)) .agg b.cells.toArray := by
  obtain ⟨b, p, hb, hbm, hp, hok, hag, h1, h2⟩ := hs.get hi
  exact ⟨b, p, hb, hbm, hp, ⟨fun n => by rw [Go.Deep.add_add]; exact h1 n, fun n => by rw [Go.Deep.add_add]; exact h2 n, hok⟩, hag⟩

theorem c_l05Blob {w : World} {p : Addr} {b : BR} (hb : BAt w p b) : Ret Tryz.prog n_spec_l05Blob [.pointer (some p)] w [.bool] (fun r w' => r = decide (b.data.length ≤ 1024) ∧ w' = w) := spec_l05Blob_calls _ (by
  unfold spec_l05Blob
  refine r_ldN b.d (hb.d 1) ?_
  refine r_ret (At.refl w) _ rfl ⟨?_, rfl⟩
  rw [hb.ok.bytes.n]
  exact decide_eq_decide.2 (by omega))

theorem c_l05Key {w : World} {p : Addr} {b : BR} (hb : BAt w p b) (hmax : b.data.length ≤ 35184372088832) : Ret Tryz.prog n_spec_l05Key [.pointer (some p)] w [.agg] (fun r _ => r = (u8s b.pb.key).toArray) := spec_l05Key_calls _ (by
  unfold spec_l05Key
  refine r_new (At.refl w) fun b2 w1 h => ?_
  refine r_draw h fun w2 h => ?_
  refine r_ldO h b.tag (hb.tag 1) (by simp) ?_
  refine r_ldO h b.d (hb.d 1) (by simp) ?_
  refine r_call h (c_l01Hash b.tag (hb.ok.bytes.at h).sl hb.ok.bytes.ok (by omega)) fun r w3 h3 _ hr => ?_
  subst hr
  refine r_stA h3 0 rfl rfl (by simp [hashL_len]) (by simp [Value.cells]) (by simpa using u8s_one) fun w4 h4 => ?_
  refine r_ldA h4 0 rfl rfl (by simp [hashL_len]) ?_
  exact r_ret h4 _ rfl rfl)

theorem c_l01Compare {a b : List Int} (ha : a.length = 32) (hb : b.length = 32) (w : World) : Ret Tryz.prog n_spec_l01Compare [.agg (u8s a).toArray, .agg (u8s b).toArray] w [.int .i64] (fun r _ => r = cmpL a b) := spec_l01Compare_calls _ _ (by
  unfold spec_l01Compare
  refine r_new (At.refl w) fun b2 w1 h => ?_
  refine r_new h fun b3 w2 h => ?_
  refine r_loop (σ := Int) (fun i w' => ∃ j : Nat, i = j ∧ j ≤ 32 ∧ cmpL a b = cmpL (a.drop j) (b.drop j) ∧ At w w' [(b3, (u8s b).toArray, ty_impl_Key), (b2, (u8s a).toArray, ty_impl_Key)]) (fun i _ => (32 - i).toNat) 0 rfl ⟨0, rfl, by omega, by simp, h⟩ ?_
  rintro i w3 ⟨j, rfl, hj, he, h⟩
  refine r_any fun _ => ?_
  refine r_if ((j : Int) < 32) rfl (fun hlt => ?_) (fun hge => ?_)
  · refine r_draw h fun w4 h => ?_
    rw [cmpL_drop (by omega) (by omega)] at he
    refine r_ix ⟨b2, 0, none⟩ rfl (by omega) (by omega) ?_
    refine r_ld h 1 rfl (add_lit _ _ _) (a.getD j 0) (by simp [Sh.emb]) (by simp only [Int.toNat_natCast, Nat.zero_add, Nat.mul_one]; exact u8s_arr (by omega)) ?_
    refine r_ix ⟨b3, 0, none⟩ rfl (by omega) (by omega) ?_
    refine r_ld h 0 rfl (add_lit _ _ _) (b.getD j 0) (by simp [Sh.emb]) (by simp only [Int.toNat_natCast, Nat.zero_add, Nat.mul_one]; exact u8s_arr (by omega)) ?_
    refine r_ne (fun hne => ?_) (fun heq => ?_)
    · refine r_draw h fun w5 h => ?_
      refine r_ix ⟨b2, 0, none⟩ rfl (by omega) (by omega) ?_
      refine r_ld h 1 rfl (add_lit _ _ _) (a.getD j 0) (by simp [Sh.emb]) (by simp only [Int.toNat_natCast, Nat.zero_add, Nat.mul_one]; exact u8s_arr (by omega)) ?_
      refine r_ix ⟨b3, 0, none⟩ rfl (by omega) (by omega) ?_
      refine r_ld h 0 rfl (add_lit _ _ _) (b.getD j 0) (by simp [Sh.emb]) (by simp only [Int.toNat_natCast, Nat.zero_add, Nat.mul_one]; exact u8s_arr (by omega)) ?_
      refine r_if (a.getD j 0 < b.getD j 0) rfl (fun hl => ?_) (fun hl => ?_)
      · rw [if_pos hl] at he
        exact r_ret h.nil (-1 : Int) rfl he.symm
      · rw [if_neg hl, if_pos (by omega)] at he
        exact r_ret h.nil (1 : Int) rfl he.symm
    · rw [heq, if_neg (by omega), if_neg (by omega)] at he
      exact ⟨((j + 1 : Nat) : Int), by rw [w64 (by omega) (by omega)]; rfl, ⟨j + 1, rfl, by omega, he, h⟩, by omega⟩
  · rw [List.drop_eq_nil_of_le (by omega), List.drop_eq_nil_of_le (by omega)] at he
    exact r_ret h.nil (0 : Int) rfl he.symm)

structure SpecR (w : World) (p : Addr) (ks : List (List Int)) (bs : List BR) : Prop where
  ex : ∃ sk sb, (∀ n, ldOk w n (p.add 1) .slice sk) ∧ (∀ n, ldOk w n (p.add 0) .slice sb) ∧ KsR w sk ks ∧ BsR w sb bs
theorem SpecR.below {w w' : World} {p : Addr} {ks : List (List Int)} {bs : List BR} (h : SpecR w p ks bs) (hb : Below w.heap.size w w') : SpecR w' p ks bs :=
  let ⟨sk, sb, h1, h2, h3, h4⟩ := h.ex
  ⟨sk, sb, fun n => ldOk_below hb (h1 n), fun n => ldOk_below hb (h2 n), h3.below hb, h4.below hb⟩
theorem SpecR.at {w w' : World} {ls : List Blk} {p : Addr} {ks : List (List Int)} {bs : List BR} (h : SpecR w p ks bs) (hA : At w w' ls) : SpecR w' p ks bs := h.below hA.below
def SpecO (b : Nat) (ks : List (List Int)) (bs : List BR) (L : List Blk) : Prop := ∃ sk sb Lk Lb, L = [(b, #[.slice sb.a sb.n sb.c, .slice sk.a sk.n sk.c], ty_spec_l05Store)] ++ (Lb ++ Lk) ∧ OwnS ty_impl_Key 32 sk (ks.flatMap u8s) Lk ∧ OwnS ty_impl_Blob 2 sb (bs.flatMap BR.cells) Lb
theorem SpecO.rd {w0 w : World} {b : Nat} {ks : List (List Int)} {bs : List BR} {L ls : List Blk} (h : SpecO b ks bs L) (hA : At w0 w (L ++ ls)) (hk : ∀ k ∈ ks, keyOk k) (hb : ∀ b ∈ bs, b.Ok w) : SpecR w ⟨b, 0, none⟩ ks bs := by
  obtain ⟨sk, sb, Lk, Lb, rfl, h1, h2⟩ := h
  refine ⟨sk, sb, fun n => ldOk_own hA 0 rfl 1 rfl (by simp [Sh.emb]), fun n => ldOk_own hA 0 rfl 0 rfl (by simp [Sh.emb]), ownS_ks h1 hA ?_ hk, ⟨h2.of hA ?_ (fun b _ => cells_len b) (by omega), hb⟩⟩
  · exact ((List.sublist_append_right _ _).trans (List.sublist_append_right _ _)).trans (List.sublist_append_left _ _)
  · exact ((List.sublist_append_left _ _).trans (List.sublist_append_right _ _)).trans (List.sublist_append_left _ _)

theorem run_noSpec (w : World) : (Instr.build ty_spec_l05Store #[]).run Tryz.prog w = .ok (.agg #[.slice none 0 0, .slice none 0 0]) w := by kernel_rfl

end Go.Proofs.YtkifkdkjljcclaaGreat
