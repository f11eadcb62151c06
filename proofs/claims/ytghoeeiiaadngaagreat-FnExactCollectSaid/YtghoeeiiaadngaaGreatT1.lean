/- DropBlob, MinusStores: what the program and the reference answer. -/
import Derived.Test.YtghoeeiiaadngaaGreatT0
namespace Go.Proofs.YtghoeeiiaadngaaGreat
open Go.Sx Go.RowKit

theorem sizeBs_cons (b : PB) (B : List PB) : sizeBs (b :: B) = 1 + b.data.length + sizeBs B := by simp [sizeBs]; omega
theorem sizeBs_sub {A B : List PB} (h : A.Sublist B) : sizeBs A ≤ sizeBs B := by
  induction h with
  | slnil => exact Nat.le_refl _
  | cons a _ ih => rw [sizeBs_cons]; omega
  | cons_cons a _ ih => rw [sizeBs_cons, sizeBs_cons]; omega

/-- What 'store' answers, as a store. -/
theorem ownStore_of {r : Array Value} {B : List PB} {t : Sl} {bs : List BR} {L : List Blk} (hr : r = #[.slice t.a t.n t.c]) (hpb : bs.map BR.pb = B) (hO : OwnBs t bs L) (hok : ∀ b ∈ B, b.ok) : OwnStore r B L := ⟨t, bs, hr, hpb, hO, hok⟩

/-! ### Flags -/
theorem T_sl_bool : SlT Tryz.prog ty_sl_bool ty_bool 1 1 := slT_of (by kernel_rfl)
theorem flag_step {xs : List Value} {fl : List Bool} {j : Nat} {v : Bool} (h : xs.take j = bools (fl.take j)) (hj : j < xs.length) (hv : fl[j]? = some v) : (xs.take (j * 1) ++ (Value.bool v).cells.toList ++ xs.drop (j * 1 + 1)).take (j + 1) = bools (fl.take (j + 1)) := by
  rw [Nat.mul_one, List.take_append_of_le_length (by simp [Value.cells]; omega), List.take_of_length_le (by simp [Value.cells]; omega), h, take_succ_get hv]
  simp [bools, Value.cells]

/-! ### DropBlob -/
def dropAns (B : List PB) (k : List Int) : List PB × Int := if validS B then (if k ∈ keysOf B then (B.filter (fun b => !decide (b.key = k)), 0) else ([], 6)) else ([], 1)
theorem dropAns_small (B : List PB) (k : List Int) : sizeBs (dropAns B k).1 ≤ sizeBs B := by
  unfold dropAns
  split
  · split
    · exact sizeBs_sub List.filter_sublist
    · simp [sizeBs]
  · simp [sizeBs]

/-- The reference keeps the blobs of which the flags say so, in new memory. -/
theorem keepL_bs {bs : List BR} {B : List PB} (hpb : bs.map BR.pb = B) (f : List Int → Bool) : (keepL ((keysOf B).map f) bs).map BR.pb = B.filter (fun b => f b.key) := by
  rw [← keepL_map, hpb]
  have e : (keysOf B).map f = B.map (fun b => f b.key) := by unfold keysOf; rw [List.map_map]; rfl
  rw [e]
  exact keepL_filter (fun b => f b.key) B

theorem c_spec_DropBlob {w : World} {r : Array Value} {B : List PB} {q : Array Value} {k : List Int} (hr : RdStore w r B) (hq : RdKey w q k) (hz : sizeBs B ≤ 1073741824) :
    Ret Tryz.prog n_spec_DropBlob [.agg r, .agg q] w [.agg, .int .i64] (fun x w' => ∃ L, At w w' L ∧ OwnStore x.1 (dropAns B k).1 L ∧ x.2 = (dropAns B k).2) := spec_DropBlob_calls _ _ (by
  unfold spec_DropBlob
  have hBok := hr.ok
  obtain ⟨s, bs, rfl, hpb, hs⟩ := hr
  obtain ⟨rfl, hk⟩ := hq
  have hl := le_sizeBs B
  have hbl : bs.length = B.length := by rw [← hpb]; simp
  refine r_new (At.refl w) fun b2 w1 h => ?_
  refine r_new h fun b3 w2 h => ?_
  refine r_new h fun b4 w3 h => ?_
  refine r_call h (c_l05Open (p := ⟨b2, 0, none⟩) (fun n => ldOk_own h 2 rfl 0 rfl (by simp [Sh.emb])) (hs.at h.nil)) fun r w4 h4 hb4 ⟨hr2, b, hr1, hr⟩ => ?_
  rw [hpb] at hr hr2
  by_cases hv : validS B
  · rw [hr2, decide_eq_true hv]
    obtain ⟨L, hL, hO⟩ := hr hv
    refine r_false rfl ?_
    have rd : ∀ {w' : World} {ls : List Blk}, At w w' (L ++ ls) → SpecR w' ⟨b, 0, none⟩ (keysOf B) bs := fun hA => hO.rd hA (keysOf_ok _) (fun b hb => (hs.at hA.nil).ok b hb)
    have h := (h.join hL).swap
    refine r_ldA h 1 rfl rfl (by simp [Value.cells, hk.1]) ?_
    rw [hr1]
    refine r_call h (c_spec_find (rd h.swap) hv.2.2 hk (by simp [keysOf]; omega)) fun r w5 h5 hb5 hr => ?_
    subst hr
    by_cases hm : k ∈ keysOf B
    · rw [if_pos hm]
      refine r_if ((posK (keysOf B) k : Int) < 0) rfl (fun hh => by omega) (fun _ => ?_)
      have hd : ∀ b ∈ bs, b.data.length ≤ 35184372088832 := fun b hb => by
        have := hv.2.1 b.pb (by rw [← hpb]; exact List.mem_map_of_mem hb)
        simp only [BR.pb] at this
        omega
      obtain ⟨fl, hfl⟩ : ∃ fl, fl = (keysOf B).map (fun x => !decide (x = k)) := ⟨_, rfl⟩
      have hfll : fl.length = B.length := by rw [hfl]; simp [keysOf]
      obtain ⟨sk, sb, e1, e2, hK, hB⟩ := (rd h5.swap).ex
      have hkn := hK.n
      rw [keysOf_len] at hkn
      refine r_dp rfl ?_
      refine r_ldN sk (e1 1) ?_
      refine r_mkO T_sl_bool h5 (by omega) (by omega) fun y xs Ly w6 h6 hOy hyn ⟨py, hpy⟩ => ?_
      refine r_loop (σ := Int) (fun i w' => ∃ (j : Nat) (xs : List Value) (Ly : List Blk), i = j ∧ j ≤ B.length ∧ OwnS ty_bool 1 y xs Ly ∧ xs.take j = bools (fl.take j) ∧ At w w' (Ly ++ ([(b4, #[.slice none 0 0], ty_impl_Store), (b3, (u8s k).toArray, ty_impl_Key), (b2, #[.slice s.a s.n s.c], ty_impl_Store)] ++ L))) (fun i _ => (y.n - i).toNat) 0 rfl
        ⟨0, xs, Ly, rfl, by omega, hOy, by simp [bools], h6⟩ ?_
      rintro i w7 ⟨j, xs, Ly, rfl, hj, hOy, htk, h⟩
      refine r_any fun _ => ?_
      have hxl := hOy.1
      refine r_if ((j : Int) < (y.n : Int)) rfl (fun hlt => ?_) (fun hge => ?_)
      · refine r_ix py hpy (by omega) (by omega) ?_
        obtain ⟨x, hx⟩ : ∃ x, (keysOf B)[j]? = some x := ⟨_, List.getElem?_eq_getElem (by rw [keysOf_len]; omega)⟩
        have hflj : fl[j]? = some (!decide (x = k)) := by rw [hfl]; simp [hx]
        have hval : ((j : Int) != (posK (keysOf B) k : Int)) = !decide (x = k) := by
          have : (j : Int) = (posK (keysOf B) k : Int) ↔ x = k := by
            constructor
            · intro e
              have e' : j = posK (keysOf B) k := by omega
              have := (posK_mem hv.2.2).1 hm
              rw [← e', hx] at this
              exact Option.some.inj this
            · rintro rfl
              have := asc_inj hv.2.2 hx ((posK_mem hv.2.2).1 hm)
              omega
          by_cases hxk : x = k
          · rw [decide_eq_true hxk, this.2 hxk]; simp
          · rw [decide_eq_false hxk]; simpa using fun e => hxk (this.1 e)
        rw [hval]
        refine r_stO h hOy hpy (j * 1) (by simp) (by simp [Value.cells]) (by omega) (by simp [Value.cells, oneC]) fun w8 L8 h8 hO8 => ?_
        exact ⟨((j + 1 : Nat) : Int), by rw [w64 (by omega) (by omega)]; rfl, ⟨j + 1, _, L8, rfl, by omega, hO8, flag_step htk (by omega) hflj, h8⟩, by omega⟩
      · have : j = B.length := by omega
        subst this
        rw [List.take_of_length_le (by omega), List.take_of_length_le (by omega)] at htk
        subst htk
        refine r_call h (c_keep (rd h.right.swap) (by rw [keysOf_len]; omega) (hOy.sl h (List.sublist_append_left _ _)) (by omega) (by omega)) fun r w8 h8 _ ⟨b', L', hr, hL', hO'⟩ => ?_
        subst hr
        have hA := h.join hL'
        have hkl := keepL_len fl bs
        refine r_call h8 (c_spec_store (hO'.rd hA (fun x hx => keysOf_ok B x ((keepL_sub _ _).subset hx)) (fun x hx => (hs.at hA.nil).ok x ((keepL_sub _ _).subset hx))) (by omega) (fun x hx => hd x ((keepL_sub _ _).subset hx))) fun r w9 _ _ ⟨t, bs', L'', hr, hpb', hL'', hO''⟩ => ?_
        rw [hfl, keepL_bs hpb (fun x => !decide (x = k))] at hpb'
        have hOS := ownStore_of hr hpb' hO'' (fun b hb => hBok b (List.mem_filter.1 hb).1)
        have h9 := (h8.join hL'').pl2
        refine r_stA h9 0 rfl rfl hOS.sz rfl hOS.one fun w10 h10 => ?_
        refine r_ldA h10 0 rfl rfl hOS.sz ?_
        have hans : dropAns B k = (B.filter (fun b => !decide (b.key = k)), 0) := by unfold dropAns; rw [if_pos hv, if_pos hm]
        rw [hans]
        exact r_ret h10.nil (_, _) rfl ⟨L'', (At.right (A := [_, _, _]) h10).left, hOS, rfl⟩
    · rw [if_neg hm]
      refine r_true rfl ?_
      refine r_pur (sh := .agg) _ run_noStore ?_
      refine r_stA h5 0 rfl rfl rfl rfl (by simp [oneC]) fun w8 h8 => ?_
      refine r_ldA h8 0 rfl rfl rfl ?_
      have hans : dropAns B k = ([], 6) := by unfold dropAns; rw [if_pos hv, if_neg hm]
      rw [hans]
      exact r_ret h8.nil (_, _) rfl ⟨[], h8.nil, OwnStore.nil, rfl⟩
  · rw [hr2, decide_eq_false hv]
    refine r_true rfl ?_
    refine r_pur (sh := .agg) _ run_noStore ?_
    refine r_stA h4 0 rfl rfl rfl rfl (by simp [oneC]) fun w5 h5 => ?_
    refine r_ldA h5 0 rfl rfl rfl ?_
    have hans : dropAns B k = ([], 1) := by unfold dropAns; rw [if_neg hv]
    rw [hans]
    exact r_ret h5.nil (_, _) rfl ⟨[], h5.nil, OwnStore.nil, rfl⟩)

/-! ### MinusStores -/
def minusAns (A B : List PB) : List PB × Int := if validS A ∧ validS B then (A.filter (fun a => !decide (a.key ∈ keysOf B)), 0) else ([], 1)
theorem minusAns_small (A B : List PB) : sizeBs (minusAns A B).1 ≤ sizeBs A := by
  unfold minusAns
  split
  · exact sizeBs_sub List.filter_sublist
  · simp [sizeBs]

end Go.Proofs.YtghoeeiiaadngaaGreat
