/- The program: a store's keys, whether a store is valid, a store with its keys, what is found in it, a store in new memory, some of the blobs. The program: a store with its keys, what is found in it, a store in new memory, some of the blobs. The reference: blobs, keys, a store with its keys. -/
import Derived.Test.YtkifkdkjljcclaaPkLPS18
namespace Go.Proofs.Ytkifkdkjljcclaa
open Go.Sx Go.RowKit

def keysOf (B : List PB) : List (List Int) := B.map PB.key
def validS (B : List PB) : Prop := B.length ≤ 128 ∧ (∀ b ∈ B, b.data.length ≤ 1024) ∧ Asc (keysOf B)
instance (B : List PB) : Decidable (validS B) := inferInstanceAs (Decidable (_ ∧ _ ∧ List.Pairwise _ _))
theorem keysOf_ok (B : List PB) : ∀ k ∈ keysOf B, keyOk k := by
  intro k hk
  obtain ⟨b, _, rfl⟩ := List.mem_map.1 hk
  exact b.key_ok
theorem keysOf_len (B : List PB) : (keysOf B).length = B.length := by simp [keysOf]

theorem c_Store_keys {w : World} {s : Sl} {bs : List BR} (hs : BsR w s bs) (hmax : bs.length ≤ 1073741824) (hd : ∀ b ∈ bs, b.data.length ≤ 35184372088832) :
    Ret Try.prog n_impl_Store_keys [.agg #[.slice s.a s.n s.c]] w [.slice] (fun r w' => SlO w w' [] ty_impl_Key 32 r ((keysOf (bs.map BR.pb)).flatMap u8s) ∧ r.n = bs.length) := impl_Store_keys_calls _ (by
  unfold impl_Store_keys
  have hn := hs.n
  refine r_new (At.refl w) fun b1 w1 h => ?_
  refine r_bs0 T_sl_Key h fun y w2 hy hyn => ?_
  refine r_ld hy.at_ 0 rfl (add_lit _ _ _) s (by simp [Sh.emb]) (by simp [Value.cells, Sh.emb]) ?_
  refine r_loop (σ := Sl × Int) (fun i w' => ∃ j : Nat, i.2 = j ∧ j ≤ bs.length ∧ i.1.n = j ∧ SlO w w' [] ty_impl_Key 32 i.1 ((keysOf ((bs.map BR.pb).take j)).flatMap u8s)) (fun i _ => (s.n - i.2).toNat) (y, 0) rfl
    ⟨0, rfl, by omega, hyn, by
      obtain ⟨L, hO, hA⟩ := hy.split
      exact hO.slo (hA.left.take _ (by simp))⟩ ?_
  rintro ⟨x, i⟩ w3 ⟨j, hi, hj, hxn, hS⟩
  dsimp only at hi hxn hS
  subst hi
  refine r_any fun _ => ?_
  dsimp only
  refine r_if ((j : Int) < (s.n : Int)) rfl (fun hlt => ?_) (fun hge => ?_)
  · obtain ⟨b, p, hb, hbm, hp, hok, hag, _, _⟩ := (hs.at hS.at_).get (i := j) (by omega)
    refine r_ix p hp (by omega) (by omega) ?_
    refine r_ldN b.cells.toArray (by simp only [Int.toNat_natCast]; exact hag) ?_
    obtain ⟨L, hO, hA⟩ := hS.split
    refine r_new hA fun b5 w4 h4 => ?_
    refine r_stA h4 0 rfl rfl rfl rfl (by simpa using cells_one b) fun w5 h5 => ?_
    refine r_ldA h5 0 rfl rfl rfl ?_
    have hok5 := (hs.at (h5.nil)).ok b hbm
    refine r_call (At.tail h5) (c_Blob_key hok5 (hd b hbm)) fun r w6 h6 _ hr => ?_
    subst hr
    refine r_push T_sl_Key (hO.slo h6) (by simp [Value.cells, PB.key, hashL_len]) (by omega) (by simpa [Value.cells] using u8s_one) (by omega) (by omega) fun x' w7 hS7 hn7 => ?_
    refine ⟨(x', ((j + 1 : Nat) : Int)), by rw [w64 (by omega) (by omega)]; rfl, ⟨j + 1, rfl, by omega, by dsimp only; omega, ?_⟩, by dsimp only; omega⟩
    have hb' : (bs.map BR.pb)[j]? = some b.pb := by simp [hb]
    rw [take_succ_get hb', keysOf, List.map_append, List.flatMap_append]
    simpa [Value.cells, keysOf] using hS7
  · have : j = bs.length := by omega
    subst this
    rw [List.take_of_length_le (by simp)] at hS
    exact r_ret hS.at_ x rfl ⟨hS, hxn⟩)

theorem c_ValidBlob {w : World} {b : BR} (hb : b.Ok w) : Ret Try.prog n_impl_ValidBlob [.agg b.cells.toArray] w [.bool] (fun r _ => r = decide (b.data.length ≤ 1024)) := impl_ValidBlob_calls _ (by
  unfold impl_ValidBlob
  refine r_new (At.refl w) fun b1 w1 h => ?_
  refine r_ld h 0 rfl (add_lit _ _ _) b.d (by simp [Sh.emb]) (by simp [Value.cells, BR.cells, Sh.emb]) ?_
  refine r_ret h _ rfl ?_
  rw [hb.bytes.n]
  exact decide_eq_decide.2 (by omega))

theorem c_ValidStore_1 {w : World} {b : BR} (hb : b.Ok w) : Ret Try.prog n_impl_ValidStore_1 [.agg b.cells.toArray] w [.bool] (fun r _ => r = !decide (b.data.length ≤ 1024)) := impl_ValidStore_1_calls _ (by
  unfold impl_ValidStore_1
  refine r_new (At.refl w) fun b1 w1 h => ?_
  refine r_ldA h 0 rfl rfl rfl ?_
  refine r_call h (c_ValidBlob (hb.below h.below)) fun r w2 h2 _ hr => ?_
  subst hr
  exact r_ret h2 _ rfl rfl)

theorem c_IndexBlobs {w : World} {s : Sl} {bs : List BR} (hs : BsR w s bs) (hmax : bs.length ≤ 1073741824) {g : FuncId} (hg : isGo Try.prog g = true) (f : PB → Bool) (hf : ∀ (w' : World) (b : BR), b.Ok w' → Ret Try.prog g [.agg b.cells.toArray] w' [.bool] (fun r _ => r = f b.pb)) :
    Ret Try.prog n_slices_IndexFunc_sl_impl_Blob_impl_Blob [.slice s.a s.n s.c, .func (.func g) #[] #[]] w [.int .i64] (fun r _ => r ≥ 0 ↔ ∃ b ∈ bs, f b.pb = true) := slices_IndexFunc_sl_impl_Blob_impl_Blob_calls s _ (by
  unfold slices_IndexFunc_sl_impl_Blob_impl_Blob
  have hn := hs.n
  refine r_loop (σ := Int) (fun i w' => ∃ j : Nat, i = j ∧ j ≤ bs.length ∧ (∀ b ∈ bs.take j, f b.pb = false) ∧ At w w' []) (fun i _ => (s.n - i).toNat) 0 rfl ⟨0, rfl, by omega, by simp, At.refl w⟩ ?_
  rintro i w1 ⟨j, rfl, hj, hall, h⟩
  refine r_any fun _ => ?_
  refine r_if ((j : Int) < (s.n : Int)) rfl (fun hlt => ?_) (fun hge => ?_)
  · obtain ⟨b, p, hb, hbm, hp, hok, hag, _, _⟩ := (hs.at h).get (i := j) (by omega)
    refine r_ix p hp (by omega) (by omega) ?_
    refine r_ldN b.cells.toArray (by simp only [Int.toNat_natCast]; exact hag) ?_
    refine c_cmpV h hg (hf _ b hok) fun r w2 h2 _ hr => ?_
    subst hr
    refine r_cond (fun ht => ?_) (fun ht => ?_)
    · exact r_ret h2 _ rfl ⟨fun _ => ⟨b, hbm, ht⟩, fun _ => by show (j : Int) ≥ 0; omega⟩
    · refine ⟨((j + 1 : Nat) : Int), by rw [w64 (by omega) (by omega)]; rfl, ⟨j + 1, rfl, by omega, fun c hc => ?_, h2⟩, by omega⟩
      rw [take_succ_get hb, List.mem_append, List.mem_singleton] at hc
      rcases hc with hc | rfl
      · exact hall c hc
      · exact ht
  · have : j = bs.length := by omega
    subst this
    rw [List.take_of_length_le (Nat.le_refl _)] at hall
    refine r_ret h _ rfl ⟨fun hh => by exfalso; revert hh; show ¬ ((-1 : Int) ≥ 0); omega, fun ⟨b, hb, ht⟩ => ?_⟩
    rw [hall b hb] at ht
    cases ht)

theorem c_ContainsBlobs {w : World} {s : Sl} {bs : List BR} (hs : BsR w s bs) (hmax : bs.length ≤ 1073741824) {g : FuncId} (hg : isGo Try.prog g = true) (f : PB → Bool) (hf : ∀ (w' : World) (b : BR), b.Ok w' → Ret Try.prog g [.agg b.cells.toArray] w' [.bool] (fun r _ => r = f b.pb)) :
    Ret Try.prog n_slices_ContainsFunc_sl_impl_Blob_impl_Blob [.slice s.a s.n s.c, .func (.func g) #[] #[]] w [.bool] (fun r _ => r = true ↔ ∃ b ∈ bs, f b.pb = true) := slices_ContainsFunc_sl_impl_Blob_impl_Blob_calls s _ (by
  unfold slices_ContainsFunc_sl_impl_Blob_impl_Blob
  refine r_call (At.refl w) (c_IndexBlobs hs hmax hg f hf) fun r w1 h1 _ hr => ?_
  refine r_ret h1 _ rfl ?_
  rw [← hr]
  exact decide_eq_true_iff)

theorem asc_iff {ks out : List (List Int)} (ha : Asc out) (hm : ∀ x, x ∈ out ↔ x ∈ ks) (hu : out.length = ks.length → ks.Nodup) : (out.length = ks.length ∧ ∀ (i : Nat) x y, ks[i]? = some x → ks[i + 1]? = some y → ¬ ltL y x) ↔ Asc ks := by
  constructor
  · rintro ⟨hl, hs⟩
    have hnd : ks.Nodup := hu hl
    refine asc_of_next fun i x y hx hy => ?_
    obtain ⟨i1, i2⟩ := List.getElem?_eq_some_iff.1 hx
    obtain ⟨j1, j2⟩ := List.getElem?_eq_some_iff.1 hy
    rcases not_ltL (hs i x y hx hy) with e | h
    · exfalso
      have := List.pairwise_iff_getElem.1 hnd i (i + 1) i1 j1 (by omega)
      rw [i2, j2] at this
      exact this e
    · exact h
  · intro h
    have e : out = ks := asc_ext ha h hm
    refine ⟨by rw [e], fun i x y hx hy hyx => ?_⟩
    obtain ⟨i1, i2⟩ := List.getElem?_eq_some_iff.1 hx
    obtain ⟨j1, j2⟩ := List.getElem?_eq_some_iff.1 hy
    have := List.pairwise_iff_getElem.1 h i (i + 1) i1 j1 (by omega)
    rw [i2, j2] at this
    exact ltL_asymm this hyx

theorem c_ValidStore {w : World} {s : Sl} {bs : List BR} (hs : BsR w s bs) (hmax : bs.length ≤ 1073741824) : Ret Try.prog n_impl_ValidStore [.agg #[.slice s.a s.n s.c]] w [.bool] (fun r _ => r = decide (validS (bs.map BR.pb))) := impl_ValidStore_calls _ (by
  unfold impl_ValidStore
  have hn := hs.n
  refine r_new (At.refl w) fun b1 w1 h => ?_
  refine r_join (σ := Unit) (fun _ w' => At w w' [(b1, #[.slice s.a s.n s.c], ty_impl_Store)] ∧ bs.length ≤ 128 ∧ ∀ b ∈ bs, b.data.length ≤ 1024) (fun _ w2 hJ => ?_) ?_
  · obtain ⟨h, h128, h1024⟩ := hJ
    refine r_any fun _ => ?_
    refine r_ldA h 0 rfl rfl rfl ?_
    refine r_call h (c_Store_keys (hs.at h) hmax (fun b hb => by have := h1024 b hb; omega)) fun r w3 h3 _ ⟨hr, hrn⟩ => ?_
    have hks : KsR w3 r (keysOf (bs.map BR.pb)) := slO_ks hr (keysOf_ok _)
    have hkl : (keysOf (bs.map BR.pb)).length = bs.length := by simp [keysOf]
    refine r_call h3 (c_sorted hks (by omega)) fun q w4 h4 hb4 ⟨out, ha, hm, hol, hu, hq, hqn⟩ => ?_
    have hval : validS (bs.map BR.pb) ↔ Asc (keysOf (bs.map BR.pb)) := by
      refine ⟨fun hh => hh.2.2, fun hh => ⟨by simpa using h128, fun b hb => ?_, hh⟩⟩
      obtain ⟨x, hx, rfl⟩ := List.mem_map.1 hb
      exact h1024 x hx
    have hiff := asc_iff ha hm hu
    refine r_eq (fun he => ?_) (fun he => ?_)
    · refine r_call h4 (c_IsSorted (hks.below hb4) (by omega)) fun r2 w5 h5 _ hr2 => ?_
      refine r_ret h5 r2 rfl ?_
      rw [← Bool.coe_iff_coe, hr2, decide_eq_true_iff, hval, ← hiff]
      refine ⟨fun hh => ⟨by omega, hh⟩, fun hh => hh.2⟩
    · refine r_ret h4 false rfl (decide_eq_false fun hh => ?_).symm
      have := (hiff.2 (hval.1 hh)).1
      omega
  · refine r_ld h 0 rfl (add_lit _ _ _) s (by simp [Sh.emb]) (by simp [Value.cells, Sh.emb]) ?_
    refine r_if ((s.n : Int) > 128) rfl (fun hgt => ?_) (fun hle => ?_)
    · exact r_ret h false rfl (decide_eq_false fun hh => by have := hh.1; simp at this; omega).symm
    · refine r_ld h 0 rfl (add_lit _ _ _) s (by simp [Sh.emb]) (by simp [Value.cells, Sh.emb]) ?_
      refine r_call h (c_ContainsBlobs (hs.at h) hmax (by kernel_rfl) (fun b => !decide (b.data.length ≤ 1024)) fun w' b hb => c_ValidStore_1 hb) fun r w2 h2 _ hr => ?_
      refine r_cond (fun ht => ?_) (fun ht => ?_)
      · obtain ⟨b, hb, hbl⟩ := hr.1 ht
        refine r_ret h2 false rfl (decide_eq_false fun hh => ?_).symm
        have := hh.2.1 b.pb (List.mem_map_of_mem hb)
        simp [this] at hbl
      · refine ⟨(), rfl, h2, by omega, fun b hb => ?_⟩
        by_cases hc : b.data.length ≤ 1024
        · exact hc
        · have := hr.2 ⟨b, hb, by show (!decide (b.data.length ≤ 1024)) = true; rw [decide_eq_false hc]; rfl⟩
          rw [this] at ht
          cases ht)

end Go.Proofs.Ytkifkdkjljcclaa

namespace Go.Proofs.Ytkifkdkjljcclaa
open Go.Sx Go.RowKit

structure ShopR (w : World) (p : Addr) (ks : List (List Int)) (bs : List BR) : Prop where
  ex : ∃ sk sb, (∀ n, ldOk w n (p.add 0) .slice sk) ∧ (∀ n, ldOk w n (p.add 1) .slice sb) ∧ KsR w sk ks ∧ BsR w sb bs
theorem ShopR.below {w w' : World} {p : Addr} {ks : List (List Int)} {bs : List BR} (h : ShopR w p ks bs) (hb : Below w.heap.size w w') : ShopR w' p ks bs :=
  let ⟨sk, sb, h1, h2, h3, h4⟩ := h.ex
  ⟨sk, sb, fun n => ldOk_below hb (h1 n), fun n => ldOk_below hb (h2 n), h3.below hb, h4.below hb⟩
theorem ShopR.at {w w' : World} {ls : List Blk} {p : Addr} {ks : List (List Int)} {bs : List BR} (h : ShopR w p ks bs) (hA : At w w' ls) : ShopR w' p ks bs := h.below hA.below

end Go.Proofs.Ytkifkdkjljcclaa

namespace Go.Proofs.Ytkifkdkjljcclaa
open Go.Sx Go.RowKit

structure BAt (w : World) (p : Addr) (b : BR) : Prop where
  tag : ∀ n, ldOk w n (p.add 0) (.int .u8) b.tag
  d : ∀ n, ldOk w n (p.add 1) .slice b.d
  ok : b.Ok w
theorem BAt.below {w w' : World} {p : Addr} {b : BR} (h : BAt w p b) (hb : Below w.heap.size w w') : BAt w' p b := ⟨fun n => ldOk_below hb (h.tag n), fun n => ldOk_below hb (h.d n), h.ok.below hb⟩
theorem BsR.bat {w : World} {s : Sl} {bs : List BR} (hs : BsR w s bs) {i : Nat} (hi : i < bs.length) : ∃ b p, bs[i]? = some b ∧ b ∈ bs ∧ s.a = some p ∧ BAt w (p.add (i * 2)) b ∧ ldOk w 2 (p.add (i * 2)) .agg b.cells.toArray := by
  obtain ⟨b, p, hb, hbm, hp, hok, hag, h1, h2⟩ := hs.get hi
  exact ⟨b, p, hb, hbm, hp, ⟨fun n => by rw [Go.Deep.add_add]; exact h1 n, fun n => by rw [Go.Deep.add_add]; exact h2 n, hok⟩, hag⟩

theorem c_l05Blob {w : World} {p : Addr} {b : BR} (hb : BAt w p b) : Ret Try.prog n_spec_l05Blob [.pointer (some p)] w [.bool] (fun r w' => r = decide (b.data.length ≤ 1024) ∧ w' = w) := spec_l05Blob_calls _ (by
  unfold spec_l05Blob
  refine r_ldN b.d (hb.d 1) ?_
  refine r_ret (At.refl w) _ rfl ⟨?_, rfl⟩
  rw [hb.ok.bytes.n]
  exact decide_eq_decide.2 (by omega))

theorem c_l05Key {w : World} {p : Addr} {b : BR} (hb : BAt w p b) (hmax : b.data.length ≤ 35184372088832) : Ret Try.prog n_spec_l05Key [.pointer (some p)] w [.agg] (fun r _ => r = (u8s b.pb.key).toArray) := spec_l05Key_calls _ (by
  unfold spec_l05Key
  refine r_new (At.refl w) fun b2 w1 h => ?_
  refine r_draw h fun w2 h => ?_
  refine r_ldO h b.tag (hb.tag 1) (by simp) ?_
  refine r_ldO h b.d (hb.d 1) (by simp) ?_
  refine r_call h (c_l01Hash b.tag (hb.ok.bytes.at h).sl hb.ok.bytes.ok (by omega)) fun r w3 h3 _ hr => ?_
  subst hr
  refine r_stA h3 0 rfl rfl (by simp [hashL_len]) (by simp [Value.cells]) (by simpa using u8s_one) fun w4 h4 => ?_
  refine r_ldA h4 0 rfl rfl (by simp [hashL_len]) ?_
  exact r_ret h4 _ rfl rfl)

theorem c_l01Compare {a b : List Int} (ha : a.length = 32) (hb : b.length = 32) (w : World) : Ret Try.prog n_spec_l01Compare [.agg (u8s a).toArray, .agg (u8s b).toArray] w [.int .i64] (fun r _ => r = cmpL a b) := spec_l01Compare_calls _ _ (by
  unfold spec_l01Compare
  refine r_new (At.refl w) fun b2 w1 h => ?_
  refine r_new h fun b3 w2 h => ?_
  refine r_loop (σ := Int) (fun i w' => ∃ j : Nat, i = j ∧ j ≤ 32 ∧ cmpL a b = cmpL (a.drop j) (b.drop j) ∧ At w w' [(b3, (u8s b).toArray, ty_impl_Key), (b2, (u8s a).toArray, ty_impl_Key)]) (fun i _ => (32 - i).toNat) 0 rfl ⟨0, rfl, by omega, by simp, h⟩ ?_
  rintro i w3 ⟨j, rfl, hj, he, h⟩
  refine r_any fun _ => ?_
  refine r_if ((j : Int) < 32) rfl (fun hlt => ?_) (fun hge => ?_)
  · refine r_draw h fun w4 h => ?_
    rw [cmpL_drop (by omega) (by omega)] at he
    refine r_ix ⟨b2, 0, none⟩ rfl (by omega) (by omega) ?_
    refine r_ld h 1 rfl (add_lit _ _ _) (a.getD j 0) (by simp [Sh.emb]) (by simp only [Int.toNat_natCast, Nat.zero_add, Nat.mul_one]; exact u8s_arr (by omega)) ?_
    refine r_ix ⟨b3, 0, none⟩ rfl (by omega) (by omega) ?_
    refine r_ld h 0 rfl (add_lit _ _ _) (b.getD j 0) (by simp [Sh.emb]) (by simp only [Int.toNat_natCast, Nat.zero_add, Nat.mul_one]; exact u8s_arr (by omega)) ?_
    refine r_ne (fun hne => ?_) (fun heq => ?_)
    · refine r_draw h fun w5 h => ?_
      refine r_ix ⟨b2, 0, none⟩ rfl (by omega) (by omega) ?_
      refine r_ld h 1 rfl (add_lit _ _ _) (a.getD j 0) (by simp [Sh.emb]) (by simp only [Int.toNat_natCast, Nat.zero_add, Nat.mul_one]; exact u8s_arr (by omega)) ?_
      refine r_ix ⟨b3, 0, none⟩ rfl (by omega) (by omega) ?_
      refine r_ld h 0 rfl (add_lit _ _ _) (b.getD j 0) (by simp [Sh.emb]) (by simp only [Int.toNat_natCast, Nat.zero_add, Nat.mul_one]; exact u8s_arr (by omega)) ?_
      refine r_if (a.getD j 0 < b.getD j 0) rfl (fun hl => ?_) (fun hl => ?_)
      · rw [if_pos hl] at he
        exact r_ret h.nil (-1 : Int) rfl he.symm
      · rw [if_neg hl, if_pos (by omega)] at he
        exact r_ret h.nil (1 : Int) rfl he.symm
    · rw [heq, if_neg (by omega), if_neg (by omega)] at he
      exact ⟨((j + 1 : Nat) : Int), by rw [w64 (by omega) (by omega)]; rfl, ⟨j + 1, rfl, by omega, he, h⟩, by omega⟩
  · rw [List.drop_eq_nil_of_le (by omega), List.drop_eq_nil_of_le (by omega)] at he
    exact r_ret h.nil (0 : Int) rfl he.symm)

structure SpecR (w : World) (p : Addr) (ks : List (List Int)) (bs : List BR) : Prop where
  ex : ∃ sk sb, (∀ n, ldOk w n (p.add 1) .slice sk) ∧ (∀ n, ldOk w n (p.add 0) .slice sb) ∧ KsR w sk ks ∧ BsR w sb bs
theorem SpecR.below {w w' : World} {p : Addr} {ks : List (List Int)} {bs : List BR} (h : SpecR w p ks bs) (hb : Below w.heap.size w w') : SpecR w' p ks bs :=
  let ⟨sk, sb, h1, h2, h3, h4⟩ := h.ex
  ⟨sk, sb, fun n => ldOk_below hb (h1 n), fun n => ldOk_below hb (h2 n), h3.below hb, h4.below hb⟩
theorem SpecR.at {w w' : World} {ls : List Blk} {p : Addr} {ks : List (List Int)} {bs : List BR} (h : SpecR w p ks bs) (hA : At w w' ls) : SpecR w' p ks bs := h.below hA.below
def SpecO (b : Nat) (ks : List (List Int)) (bs : List BR) (L : List Blk) : Prop := ∃ sk sb Lk Lb, L = [(b, #[.slice sb.a sb.n sb.c, .slice sk.a sk.n sk.c], ty_spec_l05Store)] ++ (Lb ++ Lk) ∧ OwnS ty_impl_Key 32 sk (ks.flatMap u8s) Lk ∧ OwnS ty_impl_Blob 2 sb (bs.flatMap BR.cells) Lb
theorem SpecO.rd {w0 w : World} {b : Nat} {ks : List (List Int)} {bs : List BR} {L ls : List Blk} (h : SpecO b ks bs L) (hA : At w0 w (L ++ ls)) (hk : ∀ k ∈ ks, keyOk k) (hb : ∀ b ∈ bs, b.Ok w) : SpecR w ⟨b, 0, none⟩ ks bs := by
  obtain ⟨sk, sb, Lk, Lb, rfl, h1, h2⟩ := h
  refine ⟨sk, sb, fun n => ldOk_own hA 0 rfl 1 rfl (by simp [Sh.emb]), fun n => ldOk_own hA 0 rfl 0 rfl (by simp [Sh.emb]), ownS_ks h1 hA ?_ hk, ⟨h2.of hA ?_ (fun b _ => cells_len b) (by omega), hb⟩⟩
  · exact ((List.sublist_append_right _ _).trans (List.sublist_append_right _ _)).trans (List.sublist_append_left _ _)
  · exact ((List.sublist_append_left _ _).trans (List.sublist_append_right _ _)).trans (List.sublist_append_left _ _)

theorem run_noSpec (w : World) : (Instr.build ty_spec_l05Store #[]).run Try.prog w = .ok (.agg #[.slice none 0 0, .slice none 0 0]) w := by kernel_rfl

end Go.Proofs.Ytkifkdkjljcclaa
