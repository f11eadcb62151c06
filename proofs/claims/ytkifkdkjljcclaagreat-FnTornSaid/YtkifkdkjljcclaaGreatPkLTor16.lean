/- The reference: a store is opened; a key is found; some of the blobs; the store in new memory. -/
import Derived.Test.YtkifkdkjljcclaaGreatPkLTor15
namespace Go.Proofs.YtkifkdkjljcclaaGreat
open Go.Sx Go.RowKit

theorem asc_snoc {l : List (List Int)} {x : List Int} (h : Asc l) (hx : ∀ y, l.getLast? = some y → ltL y x) : Asc (l ++ [x]) := by
  refine List.pairwise_append.2 ⟨h, by simp, fun a ha b hb => ?_⟩
  simp only [List.mem_singleton] at hb
  subst hb
  cases hl : l.getLast? with
  | none => rw [List.getLast?_eq_none_iff.1 hl] at ha; simp at ha
  | some y =>
    have hy := hx y hl
    by_cases hay : a = y
    · subst hay; exact hy
    · obtain ⟨i, hi⟩ := List.mem_iff_getElem?.1 ha
      obtain ⟨i1, i2⟩ := List.getElem?_eq_some_iff.1 hi
      rw [List.getLast?_eq_getElem?] at hl
      obtain ⟨j1, j2⟩ := List.getElem?_eq_some_iff.1 hl
      have hij : i < l.length - 1 := by
        rcases Nat.lt_or_ge i (l.length - 1) with h' | h'
        · exact h'
        · have : i = l.length - 1 := by omega
          subst this
          exact absurd (i2.symm.trans j2) hay
      have := List.pairwise_iff_getElem.1 h i (l.length - 1) i1 j1 hij
      rw [i2, j2] at this
      exact ltL_trans this hy

theorem c_l05Open {w : World} {p : Addr} {s : Sl} {bs : List BR} (hp : ∀ n, ldOk w n (p.add 0) .slice s) (hs : BsR w s bs) : Ret Tryz.prog n_spec_l05Open [.pointer (some p)] w [.optr, .bool]
    (fun r w' => r.2 = decide (validS (bs.map BR.pb)) ∧ ∃ b, r.1 = some ⟨b, 0, none⟩ ∧ (validS (bs.map BR.pb) → ∃ L, At w w' L ∧ SpecO b (keysOf (bs.map BR.pb)) bs L)) := spec_l05Open_calls _ (by
  unfold spec_l05Open
  have hn := hs.n
  refine r_pur (sh := .agg) _ run_noSpec ?_
  refine r_new (At.refl w) fun b8 w1 h => ?_
  refine r_ldO h s (hp 1) (by simp) ?_
  have bad : ∀ {w' : World} {L : List Blk}, At w w' L → ¬ validS (bs.map BR.pb) → ((real Tryz.prog (RR w [.optr, .bool] fun r w' => r.2 = decide (validS (bs.map BR.pb)) ∧ ∃ b, r.1 = some ⟨b, 0, none⟩ ∧ (validS (bs.map BR.pb) → ∃ L, At w w' L ∧ SpecO b (keysOf (bs.map BR.pb)) bs L))).ret (.tuple #[(.pointer (some (Addr.mk b8 0 none))), (.bool false)]) : World → Prop) w' :=
    fun hA hv => r_ret hA.nil (some ⟨b8, 0, none⟩, false) rfl ⟨(decide_eq_false hv).symm, b8, rfl, fun h => absurd h hv⟩
  refine r_if ((s.n : Int) > 128) rfl (fun hgt => ?_) (fun hle => ?_)
  · exact bad h fun hv => by have := hv.1; simp at this; omega
  refine r_loop (σ := Int) (fun i w' => ∃ (j : Nat) (sk sb : Sl) (Lk Lb : List Blk), i = j ∧ j ≤ bs.length ∧ sk.n = j ∧ sb.n = j ∧ (∀ b ∈ bs.take j, b.data.length ≤ 1024) ∧ Asc ((keysOf (bs.map BR.pb)).take j) ∧
      OwnS ty_impl_Key 32 sk (((keysOf (bs.map BR.pb)).take j).flatMap u8s) Lk ∧ OwnS ty_impl_Blob 2 sb ((bs.take j).flatMap BR.cells) Lb ∧ At w w' ([(b8, #[.slice sb.a sb.n sb.c, .slice sk.a sk.n sk.c], ty_spec_l05Store)] ++ (Lb ++ Lk))) (fun i _ => (s.n - i).toNat) 0 rfl
    ⟨0, ⟨none, 0, 0⟩, ⟨none, 0, 0⟩, [], [], rfl, by omega, rfl, rfl, by simp, .nil, OwnS.nil _ _, OwnS.nil _ _, h⟩ ?_
  rintro i w2 ⟨j, sk, sb, Lk, Lb, rfl, hj, hkn, hbn, h1024, hasc, hOk, hOb, h⟩
  refine r_any fun _ => ?_
  refine r_ldO h s (hp 1) (by simp) ?_
  refine r_if ((j : Int) < (s.n : Int)) rfl (fun hlt => ?_) (fun hge => ?_)
  · refine r_ldO h s (hp 1) (by simp) ?_
    obtain ⟨b, q, hb, hbm, hq, hbat, hag⟩ := (hs.at h.nil).bat (i := j) (by omega)
    refine r_ix q hq (by omega) (by omega) ?_
    refine r_call h (c_l05Blob (b := b) (by simp only [Int.toNat_natCast]; exact hbat)) fun r w3 h _ ⟨hr, hw⟩ => ?_
    subst hr
    subst hw
    by_cases hb1024 : b.data.length ≤ 1024
    · rw [decide_eq_true hb1024]
      refine r_false rfl ?_
      refine r_ldO h s (hp 1) (by simp) ?_
      refine r_ix q hq (by omega) (by omega) ?_
      refine r_call h (c_l05Key (b := b) (by simp only [Int.toNat_natCast]; exact hbat) (by omega)) fun k w3 h3 _ hk => ?_
      subst hk
      refine r_new h3 fun b6 w4 h4 => ?_
      refine r_stA h4 0 rfl rfl (by simp [PB.key, hashL_len]) (by simp [Value.cells]) (by simpa using u8s_one) fun w5 h5 => ?_
      have hkj : (keysOf (bs.map BR.pb))[j]? = some b.pb.key := by simp [keysOf, hb]
      have hk32 : (u8s b.pb.key).length = 32 := by simp [PB.key, hashL_len]
      refine r_join (σ := Unit) (fun _ w' => At w w' ([(b6, (u8s b.pb.key).toArray, ty_impl_Key), (b8, #[.slice sb.a sb.n sb.c, .slice sk.a sk.n sk.c], ty_spec_l05Store)] ++ (Lb ++ Lk)) ∧ Asc ((keysOf (bs.map BR.pb)).take (j + 1))) (fun _ w6 hJ => ?_) ?_
      · obtain ⟨h6, hasc1⟩ := hJ
        refine r_any fun _ => ?_
        refine r_join (σ := Unit) (fun _ w' => ∃ (sb' : Sl) (Lb' : List Blk), At w w' ([(b6, (u8s b.pb.key).toArray, ty_impl_Key), (b8, #[.slice sb'.a sb'.n sb'.c, .slice sk.a sk.n sk.c], ty_spec_l05Store)] ++ (Lb' ++ Lk)) ∧ sb'.n = j + 1 ∧ OwnS ty_impl_Blob 2 sb' ((bs.take (j + 1)).flatMap BR.cells) Lb') (fun _ w7 hJ => ?_) ?_
        · obtain ⟨sb', Lb', h7, hbn', hOb'⟩ := hJ
          refine r_any fun _ => ?_
          refine r_draw h7 fun w8 h8 => ?_
          refine r_ld h8 1 rfl (add_lit _ _ _) sk (by simp [Sh.emb]) rfl ?_
          refine r_ldA h8 0 rfl rfl (by simpa using hk32) ?_
          refine r_bs1A T_sl_Key h8 (by simpa [Value.cells] using hk32) (by omega) fun y w9 h9 _ hy hyn => ?_
          refine r_chk1 ?_ ?_
          · exact ldOk_own h9 1 rfl 1 rfl (by simp [Sh.emb])
          have h9' : At w w9 (Lk ++ ([(b6, (u8s b.pb.key).toArray, ty_impl_Key), (b8, #[.slice sb'.a sb'.n sb'.c, .slice sk.a sk.n sk.c], ty_spec_l05Store)] ++ Lb')) := by
            rw [← List.append_assoc] at h9
            exact h9.swap
          refine r_append T_sl_Key (hOk.slo h9') hy (by simpa [Value.cells] using u8s_one) (by omega) (by omega) fun sk' w10 hS hn10 => ?_
          obtain ⟨Lk', hOk', hA10⟩ := hS.split
          have hA10 := hA10.swap
          rw [List.append_assoc] at hA10
          refine r_st hA10 1 (o := 1) rfl (add_lit _ _ _) (by simp) rfl fun w11 h11 => ?_
          refine ⟨((j + 1 : Nat) : Int), by rw [w64 (by omega) (by omega)]; rfl, ⟨j + 1, sk', sb', Lk', Lb', rfl, by omega, by omega, hbn', ?_, hasc1, ?_, hOb', h11.tail⟩, by omega⟩
          · intro c hc
            rw [take_succ_get hb, List.mem_append, List.mem_singleton] at hc
            rcases hc with hc | rfl
            · exact h1024 c hc
            · exact hb1024
          · rw [take_succ_get hkj, List.flatMap_append]
            simpa [Value.cells] using hOk'
        · refine r_draw h6 fun w8 h8 => ?_
          refine r_ld h8 1 rfl (add_lit _ _ _) sb (by simp [Sh.emb]) rfl ?_
          refine r_ldO h8 s (hp 1) (by simp) ?_
          refine r_ix q hq (by omega) (by omega) ?_
          obtain ⟨b', q', hb', hbm', hq', hok', hag', _, _⟩ := (hs.at h8.nil).get (i := j) (by omega)
          rw [hb] at hb'
          cases hb'
          rw [hq] at hq'
          cases hq'
          refine r_ldN b.cells.toArray (by simp only [Int.toNat_natCast]; exact hag') ?_
          refine r_bs1A T_sl_Blob h8 (by simp [Value.cells, BR.cells]) (by omega) fun y w9 h9 _ hy hyn => ?_
          refine r_chk2 ?_ ?_ ?_
          · exact ldOk_below h9.below (hp 1)
          · exact ldOk_own h9 1 rfl 0 rfl (by simp [Sh.emb])
          refine r_append T_sl_Blob (hOb.slo h9.rot) hy (by simpa [Value.cells] using cells_one b) (by omega) (by omega) fun sb' w10 hS hn10 => ?_
          obtain ⟨Lb', hOb', hA10⟩ := hS.split
          have hA10 := hA10.rot
          refine r_chk1 ?_ ?_
          · exact ldOk_below hA10.below (hp 1)
          refine r_st hA10 1 (o := 0) rfl (add_lit _ _ _) (by simp) rfl fun w11 h11 => ?_
          refine ⟨(), rfl, sb', Lb', h11, by omega, ?_⟩
          rw [take_succ_get hb, List.flatMap_append]
          simpa [Value.cells] using hOb'
      · refine r_draw h5 fun w6 h6 => ?_
        have h6 : At w w6 ([(b6, (u8s b.pb.key).toArray, ty_impl_Key), (b8, #[.slice sb.a sb.n sb.c, .slice sk.a sk.n sk.c], ty_spec_l05Store)] ++ (Lb ++ Lk)) := h6
        refine r_if ((j : Int) > 0) rfl (fun hpos => ?_) (fun h0 => ?_)
        · obtain ⟨x, hx⟩ : ∃ x, (keysOf (bs.map BR.pb))[j - 1]? = some x := ⟨_, List.getElem?_eq_getElem (by rw [keysOf_len]; simp; omega)⟩
          have hxo : keyOk x := keysOf_ok _ x (List.mem_of_getElem? hx)
          have hrd : KsR w6 sk ((keysOf (bs.map BR.pb)).take j) := ownS_ks hOk h6 ((List.sublist_append_right _ _).trans (List.sublist_append_right _ _)) (fun k hk => keysOf_ok _ k (List.mem_of_mem_take hk))
          obtain ⟨x', q', hx', _, hq', _, hxl⟩ := hrd.get (i := j - 1) (by rw [List.length_take, keysOf_len]; simp; omega)
          rw [List.getElem?_take, if_pos (by omega), hx] at hx'
          cases hx'
          have e1 : IntKind.wrap .i64 ((j : Int) - 1) = ((j - 1 : Nat) : Int) := by rw [w64 (by omega) (by omega)]; omega
          rw [e1]
          have hcmp : ∀ K : Int → World → Prop, (∀ w', At w w' ([(b6, (u8s b.pb.key).toArray, ty_impl_Key), (b8, #[.slice sb.a sb.n sb.c, .slice sk.a sk.n sk.c], ty_spec_l05Store)] ++ (Lb ++ Lk)) → K (cmpL x b.pb.key) w') →
              ((real Tryz.prog (RR w [.optr, .bool] fun r w' => r.2 = decide (validS (bs.map BR.pb)) ∧ ∃ b, r.1 = some ⟨b, 0, none⟩ ∧ (validS (bs.map BR.pb) → ∃ L, At w w' L ∧ SpecO b (keysOf (bs.map BR.pb)) bs L))).call n_spec_l01Compare [(.agg (u8s x).toArray), (.agg (u8s b.pb.key).toArray)] [(.int .i64)] K : World → Prop) w6 :=
            fun K hK => r_call h6 (c_l01Compare hxo.1 b.pb.key_ok.1 w6) fun r w7 h7 _ hr => by subst hr; exact hK w7 h7
          have hnot : cmpL x b.pb.key ≥ 0 → ¬ validS (bs.map BR.pb) := fun hc hv => by
            obtain ⟨i1, i2⟩ := List.getElem?_eq_some_iff.1 hx
            obtain ⟨j1, j2⟩ := List.getElem?_eq_some_iff.1 hkj
            have := List.pairwise_iff_getElem.1 hv.2.2 (j - 1) j i1 j1 (by omega)
            rw [i2, j2] at this
            unfold ltL at this
            omega
          have hyes : ¬ cmpL x b.pb.key ≥ 0 → Asc ((keysOf (bs.map BR.pb)).take (j + 1)) := fun hc => by
            rw [take_succ_get hkj]
            refine asc_snoc hasc fun y hy => ?_
            rw [getLast_take' (by omega) hx] at hy
            cases hy
            unfold ltL
            omega
          refine r_all2 ?_ ?_
          · refine r_ld h6 1 rfl (add_lit _ _ _) sk (by simp [Sh.emb]) rfl ?_
            refine r_ix q' hq' (by omega) (by omega) ?_
            refine r_all2 ?_ ?_
            · refine r_ldN (u8s x).toArray (by simp only [Int.toNat_natCast]; exact hxl) ?_
              refine r_ldA h6 0 rfl rfl (by simpa using hk32) ?_
              refine hcmp _ fun w7 h7 => ?_
              refine r_if (cmpL x b.pb.key ≥ 0) rfl (fun hc => bad h7 (hnot hc)) (fun hc => ⟨(), rfl, h7, hyes hc⟩)
            · refine r_ldA h6 0 rfl rfl (by simpa using hk32) ?_
              refine r_ldN (u8s x).toArray (by simp only [Int.toNat_natCast]; exact hxl) ?_
              refine hcmp _ fun w7 h7 => ?_
              refine r_if (cmpL x b.pb.key ≥ 0) rfl (fun hc => bad h7 (hnot hc)) (fun hc => ⟨(), rfl, h7, hyes hc⟩)
          · refine r_ldA h6 0 rfl rfl (by simpa using hk32) ?_
            refine r_ld h6 1 rfl (add_lit _ _ _) sk (by simp [Sh.emb]) rfl ?_
            refine r_ix q' hq' (by omega) (by omega) ?_
            refine r_ldN (u8s x).toArray (by simp only [Int.toNat_natCast]; exact hxl) ?_
            refine hcmp _ fun w7 h7 => ?_
            refine r_if (cmpL x b.pb.key ≥ 0) rfl (fun hc => bad h7 (hnot hc)) (fun hc => ⟨(), rfl, h7, hyes hc⟩)
        · have : j = 0 := by omega
          subst this
          have hdone : At w w6 ([(b6, (u8s b.pb.key).toArray, ty_impl_Key), (b8, #[.slice sb.a sb.n sb.c, .slice sk.a sk.n sk.c], ty_spec_l05Store)] ++ (Lb ++ Lk)) ∧ Asc ((keysOf (bs.map BR.pb)).take (0 + 1)) := by
            refine ⟨h6, ?_⟩
            rw [take_succ_get hkj]
            exact asc_snoc .nil (by simp)
          exact ⟨⟨⟨(), rfl, hdone⟩, ⟨(), rfl, hdone⟩⟩, ⟨(), rfl, hdone⟩⟩
    · rw [decide_eq_false hb1024]
      refine r_true rfl ?_
      exact bad h fun hv => hb1024 (hv.2.1 b.pb (List.mem_map_of_mem hbm))
  · have : j = bs.length := by omega
    subst this
    rw [List.take_of_length_le (Nat.le_refl _)] at h1024 hOb
    rw [List.take_of_length_le (by simp [keysOf])] at hasc hOk
    have hv : validS (bs.map BR.pb) := ⟨by simp; omega, fun b hb => by obtain ⟨x, hx, rfl⟩ := List.mem_map.1 hb; exact h1024 x hx, hasc⟩
    exact r_ret h.nil (some ⟨b8, 0, none⟩, true) rfl ⟨(decide_eq_true hv).symm, b8, rfl, fun _ => ⟨_, h, sk, sb, Lk, Lb, rfl, hOk, hOb⟩⟩)

theorem c_spec_find {w : World} {p : Addr} {ks : List (List Int)} {bs : List BR} {k : List Int} (hs : SpecR w p ks bs) (ha : Asc ks) (hk : keyOk k) (hmax : ks.length ≤ 1073741824) :
    Ret Tryz.prog n_ptr_spec_l05Store_find [.pointer (some p), .agg (u8s k).toArray] w [.int .i64] (fun r _ => r = if k ∈ ks then (posK ks k : Int) else -1) := ptr_spec_l05Store_find_calls _ _ (by
  unfold ptr_spec_l05Store_find
  obtain ⟨sk, sb, h1, h2, h3, h4⟩ := hs.ex
  have hn := h3.n
  refine r_new (At.refl w) fun b3 w1 h => ?_
  refine r_loop (σ := Int) (fun i w' => ∃ j : Nat, i = j ∧ j ≤ ks.length ∧ k ∉ ks.take j ∧ At w w' [(b3, (u8s k).toArray, ty_impl_Key)]) (fun i _ => (sk.n - i).toNat) 0 rfl ⟨0, rfl, by omega, by simp, h⟩ ?_
  rintro i w2 ⟨j, rfl, hj, hnot, h⟩
  refine r_any fun _ => ?_
  refine r_ldO h sk (h1 1) (by simp) ?_
  refine r_if ((j : Int) < (sk.n : Int)) rfl (fun hlt => ?_) (fun hge => ?_)
  · refine r_draw h fun w3 h => ?_
    refine r_ldO h sk (h1 1) (by simp) ?_
    obtain ⟨x, q, hx, hxm, hq, hxo, hxl⟩ := (h3.at h).get (i := j) (by omega)
    refine r_ix q hq (by omega) (by omega) ?_
    refine r_ldN (u8s x).toArray (by simp only [Int.toNat_natCast]; exact hxl) ?_
    refine r_ldA h 0 rfl rfl (by simp [Value.cells, hk.1]) ?_
    refine r_pur _ (fun w' => run_eql_key _ _ hxo.1 hk.1 w') ?_
    by_cases he : x = k
    · subst he
      refine r_true (decide_eq_true rfl) ?_
      refine r_ret h.nil (j : Int) rfl ?_
      rw [if_pos hxm, asc_inj ha hx ((posK_mem ha).1 hxm)]
    · refine r_false (decide_eq_false he) ?_
      refine ⟨((j + 1 : Nat) : Int), by rw [w64 (by omega) (by omega)]; rfl, ⟨j + 1, rfl, by omega, ?_, h⟩, by omega⟩
      rw [take_succ_get hx, List.mem_append, List.mem_singleton]
      rintro (hh | hh)
      · exact hnot hh
      · exact he hh.symm
  · have : j = ks.length := by omega
    subst this
    rw [List.take_of_length_le (Nat.le_refl _)] at hnot
    exact r_ret h.nil (-1 : Int) rfl (by rw [if_neg hnot]))

def keepL {α : Type} : List Bool → List α → List α
  | true :: fl, x :: xs => x :: keepL fl xs
  | false :: fl, _ :: xs => keepL fl xs
  | _, _ => []
theorem keepL_append {α : Type} : ∀ {fl gl : List Bool} {xs ys : List α}, fl.length = xs.length → keepL (fl ++ gl) (xs ++ ys) = keepL fl xs ++ keepL gl ys
  | [], gl, [], ys, _ => rfl
  | true :: fl, gl, x :: xs, ys, h => by simp only [List.cons_append, keepL]; rw [keepL_append (by simpa using h)]
  | false :: fl, gl, x :: xs, ys, h => by simp only [List.cons_append, keepL]; rw [keepL_append (by simpa using h)]
  | [], gl, x :: xs, ys, h => by simp at h
  | b :: fl, gl, [], ys, h => by simp at h
theorem keepL_map {α β : Type} (f : α → β) : ∀ (fl : List Bool) (xs : List α), keepL fl (xs.map f) = (keepL fl xs).map f
  | [], xs => by cases xs <;> simp [keepL]
  | b :: fl, [] => by cases b <;> simp [keepL]
  | true :: fl, x :: xs => by simp [keepL, keepL_map f fl xs]
  | false :: fl, x :: xs => by simp [keepL, keepL_map f fl xs]
theorem keepL_filter {α : Type} (f : α → Bool) : ∀ xs : List α, keepL (xs.map f) xs = xs.filter f
  | [] => rfl
  | x :: xs => by
    cases h : f x <;> simp [keepL, h, keepL_filter f xs]
theorem keepL_len {α : Type} : ∀ (fl : List Bool) (xs : List α), (keepL fl xs).length ≤ xs.length
  | [], xs => by cases xs <;> simp [keepL]
  | b :: fl, [] => by cases b <;> simp [keepL]
  | true :: fl, x :: xs => by simp [keepL, keepL_len fl xs]
  | false :: fl, x :: xs => by have := keepL_len fl xs; simp [keepL]; omega
theorem keepL_sub {α : Type} : ∀ (fl : List Bool) (xs : List α), (keepL fl xs).Sublist xs
  | [], xs => by cases xs <;> simp [keepL]
  | b :: fl, [] => by cases b <;> simp [keepL]
  | true :: fl, x :: xs => by simp only [keepL]; exact List.Sublist.cons_cons _ (keepL_sub fl xs)
  | false :: fl, x :: xs => by simp only [keepL]; exact List.Sublist.cons _ (keepL_sub fl xs)
theorem keepL_succ {α : Type} {fl : List Bool} {xs : List α} {j : Nat} {b : Bool} {x : α} (hf : fl[j]? = some b) (hx : xs[j]? = some x) (hl : fl.length = xs.length) : keepL (fl.take (j + 1)) (xs.take (j + 1)) = keepL (fl.take j) (xs.take j) ++ if b then [x] else [] := by
  rw [take_succ_get hf, take_succ_get hx, keepL_append (by simp [hl])]
  cases b <;> simp [keepL]

def bools (l : List Bool) : List Value := l.map Value.bool

theorem c_keep {w : World} {p : Addr} {ks : List (List Int)} {bs : List BR} {s : Sl} {fl : List Bool} (hs : SpecR w p ks bs) (hl : ks.length = bs.length) (hf : SlAt w s 1 (bools fl)) (hfl : fl.length = bs.length) (hmax : bs.length ≤ 1073741824) :
    Ret Tryz.prog n_ptr_spec_l05Store_keep [.pointer (some p), .slice s.a s.n s.c] w [.ptr] (fun r w' => ∃ b L, r = (⟨b, 0, none⟩ : Addr) ∧ At w w' L ∧ SpecO b (keepL fl ks) (keepL fl bs) L) := ptr_spec_l05Store_keep_calls _ _ (by
  unfold ptr_spec_l05Store_keep
  obtain ⟨tk, tb, e1, e2, hK, hB⟩ := hs.ex
  have hsn : s.n = fl.length := by have := hf.len; simp [bools] at this; omega
  have hkn := hK.n
  have hbn := hB.n
  refine r_pur (sh := .agg) _ run_noSpec ?_
  refine r_new (At.refl w) fun b8 w1 h => ?_
  refine r_loop (σ := Int) (fun i w' => ∃ (j : Nat) (sk sb : Sl) (Lk Lb : List Blk), i = j ∧ j ≤ bs.length ∧ sk.n ≤ j ∧ sb.n ≤ j ∧
      OwnS ty_impl_Key 32 sk ((keepL (fl.take j) (ks.take j)).flatMap u8s) Lk ∧ OwnS ty_impl_Blob 2 sb ((keepL (fl.take j) (bs.take j)).flatMap BR.cells) Lb ∧ At w w' ([(b8, #[.slice sb.a sb.n sb.c, .slice sk.a sk.n sk.c], ty_spec_l05Store)] ++ (Lb ++ Lk))) (fun i _ => (s.n - i).toNat) 0 rfl
    ⟨0, ⟨none, 0, 0⟩, ⟨none, 0, 0⟩, [], [], rfl, by omega, Nat.le_refl _, Nat.le_refl _, by simpa [keepL] using OwnS.nil _ _, by simpa [keepL] using OwnS.nil _ _, h⟩ ?_
  rintro i w2 ⟨j, sk, sb, Lk, Lb, rfl, hj, hkn', hbn', hOk, hOb, h⟩
  refine r_any fun _ => ?_
  refine r_if ((j : Int) < (s.n : Int)) rfl (fun hlt => ?_) (fun hge => ?_)
  · obtain ⟨v, hv⟩ : ∃ v, fl[j]? = some v := ⟨_, List.getElem?_eq_getElem (by omega)⟩
    obtain ⟨q, hq, hc⟩ := hf.cell j (.bool v) (by simp [bools, hv])
    obtain ⟨x, px, hx, hxm, hpx, hxo, hxl⟩ := hK.get (i := j) (by omega)
    obtain ⟨b, pb, hb, hbm, hpb, hbo, hbl, _, _⟩ := hB.get (i := j) (by omega)
    have sk1 := keepL_succ hv hx (by omega)
    have sb1 := keepL_succ hv hb (by omega)
    refine r_ix q hq (by omega) (by omega) ?_
    refine r_ldO h v (by simp only [Int.toNat_natCast, Nat.mul_one]; exact hc) (by simp) ?_
    refine r_cond (fun ht => ?_) (fun ht => ?_)
    · subst ht
      rw [if_pos rfl] at sk1 sb1
      refine r_join (σ := Unit) (fun _ w' => ∃ (sb' : Sl) (Lb' : List Blk), At w w' ([(b8, #[.slice sb'.a sb'.n sb'.c, .slice sk.a sk.n sk.c], ty_spec_l05Store)] ++ (Lb' ++ Lk)) ∧ sb'.n ≤ j + 1 ∧ OwnS ty_impl_Blob 2 sb' ((keepL (fl.take (j + 1)) (bs.take (j + 1))).flatMap BR.cells) Lb') (fun _ w7 hJ => ?_) ?_
      · obtain ⟨sb', Lb', h7, hbn7, hOb'⟩ := hJ
        refine r_any fun _ => ?_
        refine r_draw h7 fun w8 h8 => ?_
        refine r_ld h8 0 rfl (add_lit _ _ _) sk (by simp [Sh.emb]) rfl ?_
        refine r_ldO h8 tk (e1 1) (by simp) ?_
        refine r_ix px hpx (by omega) (by omega) ?_
        refine r_ldO h8 (u8s x).toArray (by simp only [Int.toNat_natCast]; exact hxl) (by simp) ?_
        refine r_bs1A T_sl_Key h8 (by simp [Value.cells, hxo.1]) (by omega) fun y w9 h9 _ hy hyn => ?_
        refine r_chk2 ?_ ?_ ?_
        · exact ldOk_below h9.below (e1 1)
        · exact ldOk_own h9 0 rfl 1 rfl (by simp [Sh.emb])
        have h9' : At w w9 (Lk ++ ([(b8, #[.slice sb'.a sb'.n sb'.c, .slice sk.a sk.n sk.c], ty_spec_l05Store)] ++ Lb')) := by
          rw [← List.append_assoc] at h9
          exact h9.swap
        refine r_append T_sl_Key (hOk.slo h9') hy (by simpa [Value.cells] using u8s_one) (by omega) (by omega) fun sk' w10 hS hn10 => ?_
        obtain ⟨Lk', hOk', hA10⟩ := hS.split
        have hA10 := hA10.swap
        rw [List.append_assoc] at hA10
        refine r_chk1 ?_ ?_
        · exact ldOk_below hA10.below (e1 1)
        refine r_st hA10 0 (o := 1) rfl (add_lit _ _ _) (by simp) rfl fun w11 h11 => ?_
        refine ⟨((j + 1 : Nat) : Int), by rw [w64 (by omega) (by omega)]; rfl, ⟨j + 1, sk', sb', Lk', Lb', rfl, by omega, by omega, hbn7, ?_, hOb', h11⟩, by omega⟩
        rw [sk1, List.flatMap_append]
        simpa [Value.cells] using hOk'
      · refine r_draw h fun w8 h8 => ?_
        refine r_ld h8 0 rfl (add_lit _ _ _) sb (by simp [Sh.emb]) rfl ?_
        refine r_ldO h8 tb (e2 1) (by simp) ?_
        refine r_ix pb hpb (by omega) (by omega) ?_
        refine r_ldO h8 b.cells.toArray (by simp only [Int.toNat_natCast]; exact hbl) (by simp) ?_
        refine r_bs1A T_sl_Blob h8 (by simp [Value.cells, BR.cells]) (by omega) fun y w9 h9 _ hy hyn => ?_
        refine r_chk2 ?_ ?_ ?_
        · exact ldOk_below h9.below (e2 1)
        · exact ldOk_own h9 0 rfl 0 rfl (by simp [Sh.emb])
        refine r_append T_sl_Blob (hOb.slo h9.rot) hy (by simpa [Value.cells] using cells_one b) (by omega) (by omega) fun sb' w10 hS hn10 => ?_
        obtain ⟨Lb', hOb', hA10⟩ := hS.split
        have hA10 := hA10.rot
        refine r_chk1 ?_ ?_
        · exact ldOk_below hA10.below (e2 1)
        refine r_st hA10 0 (o := 0) rfl (add_lit _ _ _) (by simp) rfl fun w11 h11 => ?_
        refine ⟨(), rfl, sb', Lb', h11, by omega, ?_⟩
        rw [sb1, List.flatMap_append]
        simpa [Value.cells] using hOb'
    · subst ht
      rw [if_neg (by simp), List.append_nil] at sk1 sb1
      exact ⟨((j + 1 : Nat) : Int), by rw [w64 (by omega) (by omega)]; rfl, ⟨j + 1, sk, sb, Lk, Lb, rfl, by omega, by omega, by omega, by rw [sk1]; exact hOk, by rw [sb1]; exact hOb, h⟩, by omega⟩
  · have : j = bs.length := by omega
    subst this
    rw [List.take_of_length_le (by omega), List.take_of_length_le (by omega)] at hOk
    rw [List.take_of_length_le (by omega), List.take_of_length_le (by omega)] at hOb
    exact r_ret h.nil (⟨b8, 0, none⟩ : Addr) rfl ⟨b8, _, rfl, h, sk, sb, Lk, Lb, rfl, hOk, hOb⟩)

theorem c_spec_store {w : World} {p : Addr} {ks : List (List Int)} {bs : List BR} (hs : SpecR w p ks bs) (hmax : bs.length ≤ 1073741824) (hd : ∀ b ∈ bs, b.data.length ≤ 35184372088832) :
    Ret Tryz.prog n_ptr_spec_l05Store_store [.pointer (some p)] w [.agg] (fun r w' => ∃ (t : Sl) (bs' : List BR) (L : List Blk), r = #[.slice t.a t.n t.c] ∧ bs'.map BR.pb = bs.map BR.pb ∧ At w w' L ∧ OwnBs t bs' L) := ptr_spec_l05Store_store_calls _ (by
  unfold ptr_spec_l05Store_store
  obtain ⟨sk, sb, e1, hp, hK, hs⟩ := hs.ex
  have hn := hs.n
  refine r_new (At.refl w) fun b2 w1 h => ?_
  refine r_pur (sh := .agg) _ run_noStore ?_
  refine r_new h fun b3 w2 h => ?_
  refine r_stA h 0 rfl rfl rfl rfl (by simp [oneC]) fun w3 h => ?_
  refine r_loop (σ := Int) (fun i w' => ∃ (j : Nat) (t : Sl) (bs' : List BR) (Lb Ld : List Blk), i = j ∧ j ≤ bs.length ∧ t.n = j ∧ bs'.map BR.pb = (bs.map BR.pb).take j ∧ OwnS ty_impl_Blob 2 t (bs'.flatMap BR.cells) Lb ∧ OwnData bs' Ld ∧
      At w w' ([(b3, #[.slice t.a t.n t.c], ty_impl_Store), (b2, #[.slice none 0 0], ty_impl_Store)] ++ (Lb ++ Ld))) (fun i _ => (sb.n - i).toNat) 0 rfl
    ⟨0, ⟨none, 0, 0⟩, [], [], [], rfl, by omega, rfl, by simp, OwnS.nil _ _, .nil, h⟩ ?_
  rintro i w4 ⟨j, t, bs', Lb, Ld, rfl, hj, htn, hpb, hO, hD, h⟩
  refine r_any fun _ => ?_
  refine r_ldO h sb (hp 1) (by simp) ?_
  refine r_if ((j : Int) < (sb.n : Int)) rfl (fun hlt => ?_) (fun hge => ?_)
  · obtain ⟨b, q, hb, hbm, hq, hok, hag, _, _⟩ := hs.get (i := j) (by omega)
    refine r_draw h fun w7 h7 => ?_
    refine r_ld h7 0 rfl (add_lit _ _ _) t (by simp [Sh.emb]) rfl ?_
    refine r_ldO h7 sb (hp 1) (by simp) ?_
    refine r_ix q hq (by omega) (by omega) ?_
    refine r_ldO h7 b.cells.toArray (by simp only [Int.toNat_natCast]; exact hag) (by simp) ?_
    refine r_call h7 (c_l05Copy ((hs.at h7.nil).ok b hbm) (hd b hbm)) fun r w8 _ _ ⟨b', L', hr, hpb', hL', hO'⟩ => ?_
    subst hr
    have h8 : At w w8 ([(b3, #[.slice t.a t.n t.c], ty_impl_Store), (b2, #[.slice none 0 0], ty_impl_Store)] ++ (Lb ++ (Ld ++ L'))) := by simpa [List.append_assoc] using (h7.join hL').swap
    refine r_chk2 ?_ ?_ ?_
    · exact ldOk_below h8.below (hp 1)
    · exact ldOk_own h8 0 rfl 0 rfl (by simp [Sh.emb])
    refine r_bs1A T_sl_Blob h8 (by simp [Value.cells, BR.cells]) (by omega) fun y w9 h9 _ hy hyn => ?_
    refine r_chk2 ?_ ?_ ?_
    · exact ldOk_below h9.below (hp 1)
    · exact ldOk_own h9 0 rfl 0 rfl (by simp [Sh.emb])
    have h9' : At w w9 (Lb ++ ((Ld ++ L') ++ [(b3, #[.slice t.a t.n t.c], ty_impl_Store), (b2, #[.slice none 0 0], ty_impl_Store)])) := by simpa [List.append_assoc] using h9.swap
    refine r_append T_sl_Blob (hO.slo h9') hy (by simpa [Value.cells] using cells_one b') (by omega) (by omega) fun t' w10 hS10 hn10 => ?_
    obtain ⟨Lb', hO10, hA10⟩ := hS10.split
    have h10 : At w w10 ([(b3, #[.slice t.a t.n t.c], ty_impl_Store), (b2, #[.slice none 0 0], ty_impl_Store)] ++ (Lb' ++ (Ld ++ L'))) := by
      rw [← List.append_assoc] at hA10
      exact hA10.swap
    refine r_chk1 ?_ ?_
    · exact ldOk_below h10.below (hp 1)
    refine r_st h10 0 (o := 0) rfl (add_lit _ _ _) (by simp) rfl fun w11 h11 => ?_
    refine ⟨((j + 1 : Nat) : Int), by rw [w64 (by omega) (by omega)]; rfl, ⟨j + 1, t', bs' ++ [b'], Lb', Ld ++ L', rfl, by omega, by omega, ?_, ?_, hD.snoc hO', ?_⟩, by omega⟩
    · rw [List.map_append, hpb, take_succ_get (show (bs.map BR.pb)[j]? = some b.pb by simp [hb])]
      simp [hpb']
    · rw [List.flatMap_append]
      simpa [Value.cells] using hO10
    · exact h11
  · have : j = bs.length := by omega
    subst this
    rw [List.take_of_length_le (by simp)] at hpb
    refine r_ldA h 0 rfl rfl rfl ?_
    refine r_stA h 1 rfl rfl rfl rfl (by simp [oneC]) fun w5 h5 => ?_
    refine r_ldA h5 1 rfl rfl rfl ?_
    exact r_ret h5.nil _ rfl ⟨t, bs', Lb ++ Ld, rfl, hpb, h5.right (A := [_, _]), Lb, Ld, rfl, hO, hD⟩)

end Go.Proofs.YtkifkdkjljcclaaGreat
