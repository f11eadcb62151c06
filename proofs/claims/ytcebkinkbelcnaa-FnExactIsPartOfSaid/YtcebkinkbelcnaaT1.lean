/- DropBlob, MinusStores: what the program and the reference answer. -/
import Derived.Test.YtcebkinkbelcnaaT0
namespace Go.Proofs.Ytcebkinkbelcnaa
open Go.Sx Go.RowKit

theorem sizeBs_cons (b : PB) (B : List PB) : sizeBs (b :: B) = 1 + b.data.length + sizeBs B := by simp [sizeBs]; omega
theorem sizeBs_sub {A B : List PB} (h : A.Sublist B) : sizeBs A ≤ sizeBs B := by
  induction h with
  | slnil => exact Nat.le_refl _
  | cons a _ ih => rw [sizeBs_cons]; omega
  | cons_cons a _ ih => rw [sizeBs_cons, sizeBs_cons]; omega

/-- What 'store' answers, as a store. -/
theorem ownStore_of {r : Array Value} {B : List PB} {t : Sl} {bs : List BR} {L : List Blk} (hr : r = #[.slice t.a t.n t.c]) (hpb : bs.map BR.pb = B) (hO : OwnBs t bs L) (hok : ∀ b ∈ B, b.ok) : OwnStore r B L := ⟨t, bs, hr, hpb, hO, hok⟩

/-! ### Flags -/
theorem T_sl_bool : SlT Try.prog ty_sl_bool ty_bool 1 1 := slT_of (by kernel_rfl)
theorem flag_step {xs : List Value} {fl : List Bool} {j : Nat} {v : Bool} (h : xs.take j = bools (fl.take j)) (hj : j < xs.length) (hv : fl[j]? = some v) : (xs.take (j * 1) ++ (Value.bool v).cells.toList ++ xs.drop (j * 1 + 1)).take (j + 1) = bools (fl.take (j + 1)) := by
  rw [Nat.mul_one, List.take_append_of_le_length (by simp [Value.cells]; omega), List.take_of_length_le (by simp [Value.cells]; omega), h, take_succ_get hv]
  simp [bools, Value.cells]

/-! ### DropBlob -/
def dropAns (B : List PB) (k : List Int) : List PB × Int := if validS B then (if k ∈ keysOf B then (B.filter (fun b => !decide (b.key = k)), 0) else ([], 6)) else ([], 1)
theorem dropAns_small (B : List PB) (k : List Int) : sizeBs (dropAns B k).1 ≤ sizeBs B := by
  unfold dropAns
  split
  · split
    · exact sizeBs_sub List.filter_sublist
    · simp [sizeBs]
  · simp [sizeBs]

theorem c_impl_DropBlob_1 {w : World} {p : Addr} {k q : List Int} (hk : keyOk k) (hq : keyOk q) (hp : ldOk w 32 p .agg (u8s q).toArray) : Ret Try.prog n_impl_DropBlob_1 [.agg (u8s k).toArray, .pointer (some p)] w [.bool] (fun r _ => r = !decide (k = q)) := impl_DropBlob_1_calls _ _ (by
  unfold impl_DropBlob_1
  refine r_new (At.refl w) fun b2 w1 h => ?_
  refine r_ldA h 0 rfl rfl (by simp [Value.cells, hk.1]) ?_
  refine r_ldN (u8s q).toArray (ldOk_below h.below hp) ?_
  refine r_pur _ (fun w' => run_neq_key _ _ hk.1 hq.1 w') ?_
  exact r_ret h _ rfl rfl)

theorem c_impl_DropBlob {w : World} {r : Array Value} {B : List PB} {q : Array Value} {k : List Int} (hr : RdStore w r B) (hq : RdKey w q k) (hz : sizeBs B ≤ 1073741824) :
    Ret Try.prog n_impl_DropBlob [.agg r, .agg q] w [.agg, .int .i64] (fun x w' => ∃ L, At w w' L ∧ OwnStore x.1 (dropAns B k).1 L ∧ x.2 = (dropAns B k).2) := impl_DropBlob_calls _ _ (by
  unfold impl_DropBlob
  have hBok := hr.ok
  obtain ⟨s, bs, rfl, hpb, hs⟩ := hr
  obtain ⟨rfl, hk⟩ := hq
  have hl := le_sizeBs B
  have hbl : bs.length = B.length := by rw [← hpb]; simp
  refine r_new (At.refl w) fun b2 w1 h => ?_
  refine r_new h fun b3 w2 h => ?_
  refine r_new h fun b4 w3 h => ?_
  refine r_ldA h 2 rfl rfl rfl ?_
  refine r_call h (c_newShop (hs.at h) (by omega)) fun r w4 h4 hb4 hr => ?_
  rw [hpb] at hr
  rcases hr with ⟨hv, b, L, rfl, hL, hO⟩ | ⟨hv, rfl⟩
  · refine r_false rfl ?_
    have hA := h.join hL
    have hsh := hO.rd hA (keysOf_ok _) (fun b hb => (hs.at hA.nil).ok b hb)
    refine r_ldA h4 1 rfl rfl (by simp [Value.cells, hk.1]) ?_
    refine r_call h4 (c_has hsh hv.2.2 hk (by simp [keysOf]; omega)) fun r w5 h5 hb5 hr => ?_
    subst hr
    by_cases hm : k ∈ keysOf B
    · refine r_false (by simp [hm]) ?_
      have hd : ∀ b ∈ bs, b.data.length ≤ 35184372088832 := fun b hb => by
        have := hv.2.1 b.pb (by rw [← hpb]; exact List.mem_map_of_mem hb)
        simp only [BR.pb] at this
        omega
      have hans : dropAns B k = (B.filter (fun b => !decide (b.key = k)), 0) := by unfold dropAns; rw [if_pos hv, if_pos hm]
      refine r_call h5 (c_kept (cap := #[.pointer (some ⟨b3, 0, none⟩)]) (hsh.below hb5) (by rw [hpb]) (by omega) hd (g := n_impl_DropBlob_1) (by kernel_rfl) (fun x => !decide (x = k)) (fun w' x hb hx => c_impl_DropBlob_1 hx hk (ldOk_below hb (ldOk_blk h5 1 rfl (by simp [Value.cells, hk.1]))))) fun r w6 _ _ ⟨t, bs', L', hr, hpb', hL', hO'⟩ => ?_
      rw [hpb] at hpb'
      have hOS := ownStore_of hr hpb' hO' (fun b hb => hBok b (List.mem_filter.1 hb).1)
      have h6 := (h5.join hL').swap
      refine r_stA h6 0 rfl rfl hOS.sz rfl hOS.one fun w7 h7 => ?_
      refine r_ldA h7 0 rfl rfl hOS.sz ?_
      rw [hans]
      exact r_ret h7.nil (_, _) rfl ⟨L', h7.right (A := [_, _, _]), hOS, rfl⟩
    · refine r_true (by simp [hm]) ?_
      refine r_pur (sh := .agg) _ run_noStore ?_
      refine r_stA h5 0 rfl rfl rfl rfl (by simp [oneC]) fun w7 h7 => ?_
      refine r_ldA h7 0 rfl rfl rfl ?_
      have hans : dropAns B k = ([], 6) := by unfold dropAns; rw [if_pos hv, if_neg hm]
      rw [hans]
      exact r_ret h7.nil (_, _) rfl ⟨[], h7.nil, OwnStore.nil, rfl⟩
  · refine r_true rfl ?_
    refine r_pur (sh := .agg) _ run_noStore ?_
    refine r_stA h4 0 rfl rfl rfl rfl (by simp [oneC]) fun w5 h5 => ?_
    refine r_ldA h5 0 rfl rfl rfl ?_
    have hans : dropAns B k = ([], 1) := by unfold dropAns; rw [if_neg hv]
    rw [hans]
    exact r_ret h5.nil (_, _) rfl ⟨[], h5.nil, OwnStore.nil, rfl⟩)

/-- The reference keeps the blobs of which the flags say so, in new memory. -/
theorem keepL_bs {bs : List BR} {B : List PB} (hpb : bs.map BR.pb = B) (f : List Int → Bool) : (keepL ((keysOf B).map f) bs).map BR.pb = B.filter (fun b => f b.key) := by
  rw [← keepL_map, hpb]
  have e : (keysOf B).map f = B.map (fun b => f b.key) := by unfold keysOf; rw [List.map_map]; rfl
  rw [e]
  exact keepL_filter (fun b => f b.key) B

theorem c_spec_DropBlob {w : World} {r : Array Value} {B : List PB} {q : Array Value} {k : List Int} (hr : RdStore w r B) (hq : RdKey w q k) (hz : sizeBs B ≤ 1073741824) :
    Ret Try.prog n_spec_DropBlob [.agg r, .agg q] w [.agg, .int .i64] (fun x w' => ∃ L, At w w' L ∧ OwnStore x.1 (dropAns B k).1 L ∧ x.2 = (dropAns B k).2) := spec_DropBlob_calls _ _ (by
  unfold spec_DropBlob
  have hBok := hr.ok
  obtain ⟨s, bs, rfl, hpb, hs⟩ := hr
  obtain ⟨rfl, hk⟩ := hq
  have hl := le_sizeBs B
  have hbl : bs.length = B.length := by rw [← hpb]; simp
  refine r_new (At.refl w) fun b2 w1 h => ?_
  refine r_new h fun b3 w2 h => ?_
  refine r_new h fun b4 w3 h => ?_
  refine r_call h (c_l05Open (p := ⟨b2, 0, none⟩) (fun n => ldOk_own h 2 rfl 0 rfl (by simp [Sh.emb])) (hs.at h.nil)) fun r w4 h4 hb4 ⟨hr2, b, hr1, hr⟩ => ?_
  rw [hpb] at hr hr2
  by_cases hv : validS B
  · rw [hr2, decide_eq_true hv]
    obtain ⟨L, hL, hO⟩ := hr hv
    refine r_false rfl ?_
    have rd : ∀ {w' : World} {ls : List Blk}, At w w' (L ++ ls) → SpecR w' ⟨b, 0, none⟩ (keysOf B) bs := fun hA => hO.rd hA (keysOf_ok _) (fun b hb => (hs.at hA.nil).ok b hb)
    have h := (h.join hL).swap
    refine r_ldA h 1 rfl rfl (by simp [Value.cells, hk.1]) ?_
    rw [hr1]
    refine r_call h (c_spec_find (rd h.swap) hv.2.2 hk (by simp [keysOf]; omega)) fun r w5 h5 hb5 hr => ?_
    subst hr
    by_cases hm : k ∈ keysOf B
    · rw [if_pos hm]
      refine r_if ((posK (keysOf B) k : Int) < 0) rfl (fun hh => by omega) (fun _ => ?_)
      have hd : ∀ b ∈ bs, b.data.length ≤ 35184372088832 := fun b hb => by
        have := hv.2.1 b.pb (by rw [← hpb]; exact List.mem_map_of_mem hb)
        simp only [BR.pb] at this
        omega
      obtain ⟨fl, hfl⟩ : ∃ fl, fl = (keysOf B).map (fun x => !decide (x = k)) := ⟨_, rfl⟩
      have hfll : fl.length = B.length := by rw [hfl]; simp [keysOf]
      obtain ⟨sk, sb, e1, e2, hK, hB⟩ := (rd h5.swap).ex
      have hkn := hK.n
      rw [keysOf_len] at hkn
      refine r_dp rfl ?_
      refine r_ldN sk (e1 1) ?_
      refine r_mkO T_sl_bool h5 (by omega) (by omega) fun y xs Ly w6 h6 hOy hyn ⟨py, hpy⟩ => ?_
      refine r_loop (σ := Int) (fun i w' => ∃ (j : Nat) (xs : List Value) (Ly : List Blk), i = j ∧ j ≤ B.length ∧ OwnS ty_bool 1 y xs Ly ∧ xs.take j = bools (fl.take j) ∧ At w w' (Ly ++ ([(b4, #[.slice none 0 0], ty_impl_Store), (b3, (u8s k).toArray, ty_impl_Key), (b2, #[.slice s.a s.n s.c], ty_impl_Store)] ++ L))) (fun i _ => (y.n - i).toNat) 0 rfl
        ⟨0, xs, Ly, rfl, by omega, hOy, by simp [bools], h6⟩ ?_
      rintro i w7 ⟨j, xs, Ly, rfl, hj, hOy, htk, h⟩
      refine r_any fun _ => ?_
      have hxl := hOy.1
      refine r_if ((j : Int) < (y.n : Int)) rfl (fun hlt => ?_) (fun hge => ?_)
      · refine r_ix py hpy (by omega) (by omega) ?_
        obtain ⟨x, hx⟩ : ∃ x, (keysOf B)[j]? = some x := ⟨_, List.getElem?_eq_getElem (by rw [keysOf_len]; omega)⟩
        have hflj : fl[j]? = some (!decide (x = k)) := by rw [hfl]; simp [hx]
        have hval : ((j : Int) != (posK (keysOf B) k : Int)) = !decide (x = k) := by
          have : (j : Int) = (posK (keysOf B) k : Int) ↔ x = k := by
            constructor
            · intro e
              have e' : j = posK (keysOf B) k := by omega
              have := (posK_mem hv.2.2).1 hm
              rw [← e', hx] at this
              exact Option.some.inj this
            · rintro rfl
              have := asc_inj hv.2.2 hx ((posK_mem hv.2.2).1 hm)
              omega
          by_cases hxk : x = k
          · rw [decide_eq_true hxk, this.2 hxk]; simp
          · rw [decide_eq_false hxk]; simpa using fun e => hxk (this.1 e)
        rw [hval]
        refine r_stO h hOy hpy (j * 1) (by simp) (by simp [Value.cells]) (by omega) (by simp [Value.cells, oneC]) fun w8 L8 h8 hO8 => ?_
        exact ⟨((j + 1 : Nat) : Int), by rw [w64 (by omega) (by omega)]; rfl, ⟨j + 1, _, L8, rfl, by omega, hO8, flag_step htk (by omega) hflj, h8⟩, by omega⟩
      · have : j = B.length := by omega
        subst this
        rw [List.take_of_length_le (by omega), List.take_of_length_le (by omega)] at htk
        subst htk
        refine r_call h (c_keep (rd h.right.swap) (by rw [keysOf_len]; omega) (hOy.sl h (List.sublist_append_left _ _)) (by omega) (by omega)) fun r w8 h8 _ ⟨b', L', hr, hL', hO'⟩ => ?_
        subst hr
        have hA := h.join hL'
        have hkl := keepL_len fl bs
        refine r_call h8 (c_spec_store (hO'.rd hA (fun x hx => keysOf_ok B x ((keepL_sub _ _).subset hx)) (fun x hx => (hs.at hA.nil).ok x ((keepL_sub _ _).subset hx))) (by omega) (fun x hx => hd x ((keepL_sub _ _).subset hx))) fun r w9 _ _ ⟨t, bs', L'', hr, hpb', hL'', hO''⟩ => ?_
        rw [hfl, keepL_bs hpb (fun x => !decide (x = k))] at hpb'
        have hOS := ownStore_of hr hpb' hO'' (fun b hb => hBok b (List.mem_filter.1 hb).1)
        have h9 := (h8.join hL'').pl2
        refine r_stA h9 0 rfl rfl hOS.sz rfl hOS.one fun w10 h10 => ?_
        refine r_ldA h10 0 rfl rfl hOS.sz ?_
        have hans : dropAns B k = (B.filter (fun b => !decide (b.key = k)), 0) := by unfold dropAns; rw [if_pos hv, if_pos hm]
        rw [hans]
        exact r_ret h10.nil (_, _) rfl ⟨L'', (At.right (A := [_, _, _]) h10).left, hOS, rfl⟩
    · rw [if_neg hm]
      refine r_true rfl ?_
      refine r_pur (sh := .agg) _ run_noStore ?_
      refine r_stA h5 0 rfl rfl rfl rfl (by simp [oneC]) fun w8 h8 => ?_
      refine r_ldA h8 0 rfl rfl rfl ?_
      have hans : dropAns B k = ([], 6) := by unfold dropAns; rw [if_pos hv, if_neg hm]
      rw [hans]
      exact r_ret h8.nil (_, _) rfl ⟨[], h8.nil, OwnStore.nil, rfl⟩
  · rw [hr2, decide_eq_false hv]
    refine r_true rfl ?_
    refine r_pur (sh := .agg) _ run_noStore ?_
    refine r_stA h4 0 rfl rfl rfl rfl (by simp [oneC]) fun w5 h5 => ?_
    refine r_ldA h5 0 rfl rfl rfl ?_
    have hans : dropAns B k = ([], 1) := by unfold dropAns; rw [if_neg hv]
    rw [hans]
    exact r_ret h5.nil (_, _) rfl ⟨[], h5.nil, OwnStore.nil, rfl⟩)

/-! ### MinusStores -/
def minusAns (A B : List PB) : List PB × Int := if validS A ∧ validS B then (A.filter (fun a => !decide (a.key ∈ keysOf B)), 0) else ([], 1)
theorem minusAns_small (A B : List PB) : sizeBs (minusAns A B).1 ≤ sizeBs A := by
  unfold minusAns
  split
  · exact sizeBs_sub List.filter_sublist
  · simp [sizeBs]

theorem c_impl_MinusStores_1 {w : World} {p q : Addr} {k : List Int} {ks : List (List Int)} {bs : List BR} (hk : keyOk k) (hp : ldOk w 1 p .ptr q) (hs : ShopR w q ks bs) (ha : Asc ks) (hmax : ks.length ≤ 1073741824) : Ret Try.prog n_impl_MinusStores_1 [.agg (u8s k).toArray, .pointer (some p)] w [.bool] (fun r _ => r = !decide (k ∈ ks)) := impl_MinusStores_1_calls _ _ (by
  unfold impl_MinusStores_1
  refine r_new (At.refl w) fun b2 w1 h => ?_
  refine r_ldN q (ldOk_below h.below hp) ?_
  refine r_ldA h 0 rfl rfl (by simp [Value.cells, hk.1]) ?_
  refine r_call h (c_has (hs.at h) ha hk hmax) fun r w2 h2 _ hr => ?_
  subst hr
  exact r_ret h2 _ rfl rfl)

theorem c_impl_MinusStores {w : World} {r r' : Array Value} {A B : List PB} (hr : RdStore w r A) (hr' : RdStore w r' B) (hz : sizeBs A ≤ 1073741824) (hz' : sizeBs B ≤ 1073741824) :
    Ret Try.prog n_impl_MinusStores [.agg r, .agg r'] w [.agg, .int .i64] (fun x w' => ∃ L, At w w' L ∧ OwnStore x.1 (minusAns A B).1 L ∧ x.2 = (minusAns A B).2) := impl_MinusStores_calls _ _ (by
  unfold impl_MinusStores
  have hAok := hr.ok
  obtain ⟨s, bs, rfl, hpb, hs⟩ := hr
  obtain ⟨s', bs', rfl, hpb', hs'⟩ := hr'
  have hl := le_sizeBs A
  have hl' := le_sizeBs B
  have hbl : bs.length = A.length := by rw [← hpb]; simp
  have hbl' : bs'.length = B.length := by rw [← hpb']; simp
  have bad : ∀ {w' : World} {b4 : Nat} {x y : Blk} {ls : List Blk}, ¬ (validS A ∧ validS B) → At w w' (x :: (b4, #[.slice none 0 0], ty_impl_Store) :: y :: ls) → ((real Try.prog (RR w [.agg, .int .i64] (fun x w' => ∃ L, At w w' L ∧ OwnStore x.1 (minusAns A B).1 L ∧ x.2 = (minusAns A B).2))).pur (Instr.build ty_impl_Store #[]) .agg fun y26 => (real Try.prog (RR w [.agg, .int .i64] (fun x w' => ∃ L, At w w' L ∧ OwnStore x.1 (minusAns A B).1 L ∧ x.2 = (minusAns A B).2))).st 1 (Addr.mk b4 0 none) (.agg y26) <| (real Try.prog (RR w [.agg, .int .i64] (fun x w' => ∃ L, At w w' L ∧ OwnStore x.1 (minusAns A B).1 L ∧ x.2 = (minusAns A B).2))).ld .agg 1 (Addr.mk b4 0 none) fun z10 => (real Try.prog (RR w [.agg, .int .i64] (fun x w' => ∃ L, At w w' L ∧ OwnStore x.1 (minusAns A B).1 L ∧ x.2 = (minusAns A B).2))).ret (.tuple #[(.agg z10), (.int .i64 1)]) : World → Prop) w' := by
    intro w' b4 x y ls hv h
    refine r_pur (sh := .agg) _ run_noStore ?_
    refine r_stA h 1 rfl rfl rfl rfl (by simp [oneC]) fun w5 h5 => ?_
    refine r_ldA h5 1 rfl rfl rfl ?_
    have hans : minusAns A B = ([], 1) := by unfold minusAns; rw [if_neg hv]
    rw [hans]
    exact r_ret h5.nil (_, _) rfl ⟨[], h5.nil, OwnStore.nil, rfl⟩
  refine r_new (At.refl w) fun b2 w1 h => ?_
  refine r_new h fun b3 w2 h => ?_
  refine r_new h fun b4 w3 h => ?_
  refine r_ldA h 2 rfl rfl rfl ?_
  refine r_call h (c_newShop (hs.at h) (by omega)) fun r w4 h4 hb4 hr => ?_
  rw [hpb] at hr
  rcases hr with ⟨hv, b, L, rfl, hL, hO⟩ | ⟨hv, rfl⟩
  · have h : At w w4 ([(b4, #[.slice none 0 0], ty_impl_Store), (b3, #[.slice s'.a s'.n s'.c], ty_impl_Store), (b2, #[.slice s.a s.n s.c], ty_impl_Store)] ++ (L ++ [])) := by rw [List.append_nil]; exact (h.join hL).swap
    refine r_ldA h 1 rfl rfl rfl ?_
    refine r_call h (c_newShop (hs'.at h.nil) (by omega)) fun r' w5 h5 hb5 hr' => ?_
    rw [hpb'] at hr'
    rcases hr' with ⟨hv', b', L', rfl, hL', hO'⟩ | ⟨hv', rfl⟩
    · have h := (h.join hL').rot
      refine r_new h fun b8 w6 h => ?_
      refine r_st h 0 (o := 0) rfl rfl (by simp [Value.cells]) rfl fun w7 h => ?_
      have h : At w w7 ([(b8, #[.pointer (some ⟨b', 0, none⟩)], ty_ptr_impl_shop), (b4, #[.slice none 0 0], ty_impl_Store), (b3, #[.slice s'.a s'.n s'.c], ty_impl_Store), (b2, #[.slice s.a s.n s.c], ty_impl_Store)] ++ (L' ++ (L ++ []))) := h
      refine r_false rfl ?_
      refine r_false rfl ?_
      have hd : ∀ b ∈ bs, b.data.length ≤ 35184372088832 := fun b hb => by
        have := hv.2.1 b.pb (by rw [← hpb]; exact List.mem_map_of_mem hb)
        simp only [BR.pb] at this
        omega
      have sh1 := hO.rd h.pl2 (keysOf_ok _) (fun b hb => (hs.at h.nil).ok b hb)
      have sh2 := hO'.rd h.pl1 (keysOf_ok _) (fun b hb => (hs'.at h.nil).ok b hb)
      refine r_call h (c_kept (cap := #[.pointer (some ⟨b8, 0, none⟩)]) sh1 (by rw [hpb]) (by omega) hd (g := n_impl_MinusStores_1) (by kernel_rfl) (fun x => !decide (x ∈ keysOf B)) (fun w' x hb hx => c_impl_MinusStores_1 hx (ldOk_below hb (by simpa [add_zero] using ldOk_own (sh := .ptr) h 0 rfl 0 rfl (by simp [Sh.emb]))) (sh2.below hb) hv'.2.2 (by rw [keysOf_len]; omega))) fun r w6 _ _ ⟨t, bs', L'', hr, hpb'', hL'', hO''⟩ => ?_
      rw [hpb] at hpb''
      have hOS := ownStore_of hr hpb'' hO'' (fun b hb => hAok b (List.mem_filter.1 hb).1)
      have h := (h.join hL'').rot
      refine r_stA h 1 rfl rfl hOS.sz rfl hOS.one fun w7 h => ?_
      refine r_ldA h 1 rfl rfl hOS.sz ?_
      have hans : minusAns A B = (A.filter (fun a => !decide (a.key ∈ keysOf B)), 0) := by unfold minusAns; rw [if_pos ⟨hv, hv'⟩]
      rw [hans]
      exact r_ret h.nil (_, _) rfl ⟨L'', (At.right (A := [_, _, _, _]) h).left, hOS, rfl⟩
    · refine r_new h5 fun b8 w6 h => ?_
      refine r_st h 0 (o := 0) rfl rfl (by simp [Value.cells]) rfl fun w7 h7 => ?_
      refine r_false rfl ?_
      refine r_true rfl ?_
      exact bad (fun hh => hv' hh.2) h7
  · refine r_ldA h4 1 rfl rfl rfl ?_
    refine r_call h4 (c_newShop (hs'.at h4) (by omega)) fun r' w5 h5 hb5 hr' => ?_
    refine r_new h5 fun b8 w6 h6 => ?_
    refine r_st h6 0 (o := 0) rfl rfl (by simp [Value.cells]) (by cases r'.1 <;> rfl) fun w7 h7 => ?_
    refine r_true rfl ?_
    exact bad (fun hh => hv hh.1) h7)

theorem c_spec_MinusStores {w : World} {r r' : Array Value} {A B : List PB} (hr : RdStore w r A) (hr' : RdStore w r' B) (hz : sizeBs A ≤ 1073741824) (hz' : sizeBs B ≤ 1073741824) :
    Ret Try.prog n_spec_MinusStores [.agg r, .agg r'] w [.agg, .int .i64] (fun x w' => ∃ L, At w w' L ∧ OwnStore x.1 (minusAns A B).1 L ∧ x.2 = (minusAns A B).2) := spec_MinusStores_calls _ _ (by
  unfold spec_MinusStores
  have hAok := hr.ok
  obtain ⟨s, bs, rfl, hpb, hs⟩ := hr
  obtain ⟨s', bs', rfl, hpb', hs'⟩ := hr'
  have hl := le_sizeBs A
  have hl' := le_sizeBs B
  have hbl : bs.length = A.length := by rw [← hpb]; simp
  have hbl' : bs'.length = B.length := by rw [← hpb']; simp
  have bad : ∀ {w' : World} {b4 : Nat} {ls : List Blk}, ¬ (validS A ∧ validS B) → At w w' ((b4, #[.slice none 0 0], ty_impl_Store) :: ls) → ((real Try.prog (RR w [.agg, .int .i64] (fun x w' => ∃ L, At w w' L ∧ OwnStore x.1 (minusAns A B).1 L ∧ x.2 = (minusAns A B).2))).pur (Instr.build ty_impl_Store #[]) .agg fun y26 => (real Try.prog (RR w [.agg, .int .i64] (fun x w' => ∃ L, At w w' L ∧ OwnStore x.1 (minusAns A B).1 L ∧ x.2 = (minusAns A B).2))).st 1 (Addr.mk b4 0 none) (.agg y26) <| (real Try.prog (RR w [.agg, .int .i64] (fun x w' => ∃ L, At w w' L ∧ OwnStore x.1 (minusAns A B).1 L ∧ x.2 = (minusAns A B).2))).ld .agg 1 (Addr.mk b4 0 none) fun z10 => (real Try.prog (RR w [.agg, .int .i64] (fun x w' => ∃ L, At w w' L ∧ OwnStore x.1 (minusAns A B).1 L ∧ x.2 = (minusAns A B).2))).ret (.tuple #[(.agg z10), (.int .i64 1)]) : World → Prop) w' := by
    intro w' b4 ls hv h
    refine r_pur (sh := .agg) _ run_noStore ?_
    refine r_stA h 0 rfl rfl rfl rfl (by simp [oneC]) fun w5 h5 => ?_
    refine r_ldA h5 0 rfl rfl rfl ?_
    have hans : minusAns A B = ([], 1) := by unfold minusAns; rw [if_neg hv]
    rw [hans]
    exact r_ret h5.nil (_, _) rfl ⟨[], h5.nil, OwnStore.nil, rfl⟩
  refine r_new (At.refl w) fun b2 w1 h => ?_
  refine r_new h fun b3 w2 h => ?_
  refine r_new h fun b4 w3 h => ?_
  refine r_call h (c_l05Open (p := ⟨b2, 0, none⟩) (fun n => ldOk_own h 2 rfl 0 rfl (by simp [Sh.emb])) (hs.at h.nil)) fun r w4 h4 hb4 ⟨hr2, b, hr1, hr⟩ => ?_
  rw [hpb] at hr hr2
  by_cases hv : validS A
  · obtain ⟨L, hL, hO⟩ := hr hv
    have h : At w w4 ([(b4, #[.slice none 0 0], ty_impl_Store), (b3, #[.slice s'.a s'.n s'.c], ty_impl_Store), (b2, #[.slice s.a s.n s.c], ty_impl_Store)] ++ (L ++ [])) := by rw [List.append_nil]; exact (h.join hL).swap
    refine r_call h (c_l05Open (p := ⟨b3, 0, none⟩) (fun n => ldOk_own h 1 rfl 0 rfl (by simp [Sh.emb])) (hs'.at h.nil)) fun r' w5 h5 hb5 ⟨hr2', b', hr1', hr'⟩ => ?_
    rw [hpb'] at hr' hr2'
    refine r_joinI ?_
    rw [hr2, decide_eq_true hv]
    refine r_false rfl ?_
    by_cases hv' : validS B
    · obtain ⟨L', hL', hO'⟩ := hr' hv'
      have h := (h.join hL').rot
      rw [hr2', decide_eq_true hv', hr1, hr1']
      refine r_false rfl ?_
      refine ⟨(), rfl, ?_⟩
      refine r_any fun _ => ?_
      have rd1 : ∀ {w' : World} {ls : List Blk}, At w w' (L ++ ls) → SpecR w' ⟨b, 0, none⟩ (keysOf A) bs := fun hA => hO.rd hA (keysOf_ok _) (fun b hb => (hs.at hA.nil).ok b hb)
      have rd2 : ∀ {w' : World} {ls : List Blk}, At w w' (L' ++ ls) → SpecR w' ⟨b', 0, none⟩ (keysOf B) bs' := fun hA => hO'.rd hA (keysOf_ok _) (fun b hb => (hs'.at hA.nil).ok b hb)
      have hd : ∀ b ∈ bs, b.data.length ≤ 35184372088832 := fun b hb => by
        have := hv.2.1 b.pb (by rw [← hpb]; exact List.mem_map_of_mem hb)
        simp only [BR.pb] at this
        omega
      obtain ⟨fl, hfl⟩ : ∃ fl, fl = (keysOf A).map (fun x => !decide (x ∈ keysOf B)) := ⟨_, rfl⟩
      have hfll : fl.length = A.length := by rw [hfl]; simp [keysOf]
      obtain ⟨sk, sb, e1, e2, hK, hB⟩ := (rd1 h.pl2).ex
      have hkn := hK.n
      rw [keysOf_len] at hkn
      refine r_dp rfl ?_
      refine r_ldN sk (e1 1) ?_
      refine r_mkO T_sl_bool h (by omega) (by omega) fun y xs Ly w6 h6 hOy hyn ⟨py, hpy⟩ => ?_
      refine r_loop (σ := Int) (fun i w' => ∃ (j : Nat) (xs : List Value) (Ly : List Blk), i = j ∧ j ≤ A.length ∧ OwnS ty_bool 1 y xs Ly ∧ xs.take j = bools (fl.take j) ∧ At w w' (Ly ++ ([(b4, #[.slice none 0 0], ty_impl_Store), (b3, #[.slice s'.a s'.n s'.c], ty_impl_Store), (b2, #[.slice s.a s.n s.c], ty_impl_Store)] ++ (L' ++ (L ++ []))))) (fun i _ => (y.n - i).toNat) 0 rfl
        ⟨0, xs, Ly, rfl, by omega, hOy, by simp [bools], h6⟩ ?_
      rintro i w7 ⟨j, xs, Ly, rfl, hj, hOy, htk, h⟩
      refine r_any fun _ => ?_
      have hxl := hOy.1
      refine r_if ((j : Int) < (y.n : Int)) rfl (fun hlt => ?_) (fun hge => ?_)
      · obtain ⟨sk, sb, e1, e2, hK, hB⟩ := (rd1 h.right.pl2).ex
        obtain ⟨x, q, hx, hxm, hq, hxo, hxl'⟩ := hK.get (i := j) (by rw [keysOf_len]; omega)
        have hkn := hK.n
        rw [keysOf_len] at hkn
        have hflj : fl[j]? = some (!decide (x ∈ keysOf B)) := by rw [hfl]; simp [hx]
        refine r_dp rfl ?_
        refine r_ldN sk (e1 1) ?_
        refine r_ix q hq (by omega) (by omega) ?_
        refine r_ldN (u8s x).toArray (by simp only [Int.toNat_natCast]; exact hxl') ?_
        refine r_call h (c_spec_find (rd2 h.right.pl1) hv'.2.2 hxo (by rw [keysOf_len]; omega)) fun r w8 h8 _ hr => ?_
        subst hr
        have hval : decide ((if x ∈ keysOf B then (posK (keysOf B) x : Int) else -1) < 0) = !decide (x ∈ keysOf B) := by
          by_cases hm : x ∈ keysOf B
          · rw [if_pos hm, decide_eq_true hm]; simp
          · rw [if_neg hm, decide_eq_false hm]; rfl
        refine r_ix py hpy (by omega) (by omega) ?_
        rw [hval]
        refine r_stO h8 hOy hpy (j * 1) (by simp) (by simp [Value.cells]) (by omega) (by simp [Value.cells, oneC]) fun w9 L9 h9 hO9 => ?_
        exact ⟨((j + 1 : Nat) : Int), by rw [w64 (by omega) (by omega)]; rfl, ⟨j + 1, _, L9, rfl, by omega, hO9, flag_step htk (by omega) hflj, h9⟩, by omega⟩
      · have : j = A.length := by omega
        subst this
        rw [List.take_of_length_le (by omega), List.take_of_length_le (by omega)] at htk
        subst htk
        refine r_call h (c_keep (rd1 h.right.pl2) (by rw [keysOf_len]; omega) (hOy.sl h (List.sublist_append_left _ _)) (by omega) (by omega)) fun r w8 h8 _ ⟨b9, L9, hr, hL9, hO9⟩ => ?_
        subst hr
        have hA := h.join hL9
        have hkl := keepL_len fl bs
        refine r_call h8 (c_spec_store (hO9.rd hA (fun x hx => keysOf_ok A x ((keepL_sub _ _).subset hx)) (fun x hx => (hs.at hA.nil).ok x ((keepL_sub _ _).subset hx))) (by omega) (fun x hx => hd x ((keepL_sub _ _).subset hx))) fun r w9 _ _ ⟨t, bs', L'', hr, hpb'', hL'', hO''⟩ => ?_
        rw [hfl, keepL_bs hpb (fun x => !decide (x ∈ keysOf B))] at hpb''
        have hOS := ownStore_of hr hpb'' hO'' (fun b hb => hAok b (List.mem_filter.1 hb).1)
        have h9 := (h8.join hL'').pl2
        refine r_stA h9 0 rfl rfl hOS.sz rfl hOS.one fun w10 h10 => ?_
        refine r_ldA h10 0 rfl rfl hOS.sz ?_
        have hans : minusAns A B = (A.filter (fun a => !decide (a.key ∈ keysOf B)), 0) := by unfold minusAns; rw [if_pos ⟨hv, hv'⟩]
        rw [hans]
        exact r_ret h10.nil (_, _) rfl ⟨L'', (At.right (A := [_, _, _]) h10).left, hOS, rfl⟩
    · rw [hr2', decide_eq_false hv']
      refine r_true rfl ?_
      exact bad (fun hh => hv' hh.2) h5
  · refine r_call h4 (c_l05Open (p := ⟨b3, 0, none⟩) (fun n => ldOk_own h4 1 rfl 0 rfl (by simp [Sh.emb])) (hs'.at h4.nil)) fun r' w5 h5 hb5 ⟨hr2', b', hr1', hr'⟩ => ?_
    refine r_joinI ?_
    rw [hr2, decide_eq_false hv]
    refine r_true rfl ?_
    exact bad (fun hh => hv hh.1) h5)

end Go.Proofs.Ytcebkinkbelcnaa
