/- The reference: a store is opened; a key is found; some of the blobs; the store in new memory. The kinds of values of which laws speak: read, own. Stores, blobs, keys. -/
import Derived.Test.YtkifkdkjljcclaaPkLPS19
namespace Go.Proofs.Ytkifkdkjljcclaa
open Go.Sx Go.RowKit

theorem asc_snoc {l : List (List Int)} {x : List Int} (h : Asc l) (hx : ∀ y, l.getLast? = some y → ltL y x) : Asc (l ++ [x]) := by
  refine List.pairwise_append.2 ⟨h, by simp, fun a ha b hb => ?_⟩
  simp only [List.mem_singleton] at hb
  subst hb
  cases hl : l.getLast? with
  | none => rw [List.getLast?_eq_none_iff.1 hl] at ha; simp at ha
  | some y =>
    have hy := hx y hl
    by_cases hay : a = y
    · subst hay; exact hy
    · obtain ⟨i, hi⟩ := List.mem_iff_getElem?.1 ha
      obtain ⟨i1, i2⟩ := List.getElem?_eq_some_iff.1 hi
      rw [List.getLast?_eq_getElem?] at hl
      obtain ⟨j1, j2⟩ := List.getElem?_eq_some_iff.1 hl
      have hij : i < l.length - 1 := by
        rcases Nat.lt_or_ge i (l.length - 1) with h' | h'
        · exact h'
        · have : i = l.length - 1 := by omega
          subst this
          exact absurd (i2.symm.trans j2) hay
      have := List.pairwise_iff_getElem.1 h i (l.length - 1) i1 j1 hij
      rw [i2, j2] at this
      exact ltL_trans this hy

theorem c_l05Open {w : World} {p : Addr} {s : Sl} {bs : List BR} (hp : ∀ n, ldOk w n (p.add 0) .slice s) (hs : BsR w s bs) : Ret Try.prog n_spec_l05Open [.pointer (some p)] w [.optr, .bool]
    (fun r w' => r.2 = decide (validS (bs.map BR.pb)) ∧ ∃ b, r.1 = some ⟨b, 0, none⟩ ∧ (validS (bs.map BR.pb) → ∃ L, At w w' L ∧ SpecO b (keysOf (bs.map BR.pb)) bs L)) := spec_l05Open_calls _ (by
  unfold spec_l05Open
  have hn := hs.n
  refine r_pur (sh := .agg) _ run_noSpec ?_
  refine r_new (At.refl w) fun b8 w1 h => ?_
  refine r_ldO h s (hp 1) (by simp) ?_
  have bad : ∀ {w' : World} {L : List Blk}, At w w' L → ¬ validS (bs.map BR.pb) → ((real Try.prog (RR w [.optr, .bool] fun r w' => r.2 = decide (validS (bs.map BR.pb)) ∧ ∃ b, r.1 = some ⟨b, 0, none⟩ ∧ (validS (bs.map BR.pb) → ∃ L, At w w' L ∧ SpecO b (keysOf (bs.map BR.pb)) bs L))).ret (.tuple #[(.pointer (some (Addr.mk b8 0 none))), (.bool false)]) : World → Prop) w' :=
    fun hA hv => r_ret hA.nil (some ⟨b8, 0, none⟩, false) rfl ⟨(decide_eq_false hv).symm, b8, rfl, fun h => absurd h hv⟩
  refine r_if ((s.n : Int) > 128) rfl (fun hgt => ?_) (fun hle => ?_)
  · exact bad h fun hv => by have := hv.1; simp at this; omega
  refine r_loop (σ := Int) (fun i w' => ∃ (j : Nat) (sk sb : Sl) (Lk Lb : List Blk), i = j ∧ j ≤ bs.length ∧ sk.n = j ∧ sb.n = j ∧ (∀ b ∈ bs.take j, b.data.length ≤ 1024) ∧ Asc ((keysOf (bs.map BR.pb)).take j) ∧
      OwnS ty_impl_Key 32 sk (((keysOf (bs.map BR.pb)).take j).flatMap u8s) Lk ∧ OwnS ty_impl_Blob 2 sb ((bs.take j).flatMap BR.cells) Lb ∧ At w w' ([(b8, #[.slice sb.a sb.n sb.c, .slice sk.a sk.n sk.c], ty_spec_l05Store)] ++ (Lb ++ Lk))) (fun i _ => (s.n - i).toNat) 0 rfl
    ⟨0, ⟨none, 0, 0⟩, ⟨none, 0, 0⟩, [], [], rfl, by omega, rfl, rfl, by simp, .nil, OwnS.nil _ _, OwnS.nil _ _, h⟩ ?_
  rintro i w2 ⟨j, sk, sb, Lk, Lb, rfl, hj, hkn, hbn, h1024, hasc, hOk, hOb, h⟩
  refine r_any fun _ => ?_
  refine r_ldO h s (hp 1) (by simp) ?_
  refine r_if ((j : Int) < (s.n : Int)) rfl (fun hlt => ?_) (fun hge => ?_)
  · refine r_ldO h s (hp 1) (by simp) ?_
    obtain ⟨b, q, hb, hbm, hq, hbat, hag⟩ := (hs.at h.nil).bat (i := j) (by omega)
    refine r_ix q hq (by omega) (by omega) ?_
    refine r_call h (c_l05Blob (b := b) (by simp only [Int.toNat_natCast]; exact hbat)) fun r w3 h _ ⟨hr, hw⟩ => ?_
    subst hr
    subst hw
    by_cases hb1024 : b.data.length ≤ 1024
    · rw [decide_eq_true hb1024]
      refine r_false rfl ?_
      refine r_ldO h s (hp 1) (by simp) ?_
      refine r_ix q hq (by omega) (by omega) ?_
      refine r_call h (c_l05Key (b := b) (by simp only [Int.toNat_natCast]; exact hbat) (by omega)) fun k w3 h3 _ hk => ?_
      subst hk
      refine r_new h3 fun b6 w4 h4 => ?_
      refine r_stA h4 0 rfl rfl (by simp [PB.key, hashL_len]) (by simp [Value.cells]) (by simpa using u8s_one) fun w5 h5 => ?_
      have hkj : (keysOf (bs.map BR.pb))[j]? = some b.pb.key := by simp [keysOf, hb]
      have hk32 : (u8s b.pb.key).length = 32 := by simp [PB.key, hashL_len]
      refine r_join (σ := Unit) (fun _ w' => At w w' ([(b6, (u8s b.pb.key).toArray, ty_impl_Key), (b8, #[.slice sb.a sb.n sb.c, .slice sk.a sk.n sk.c], ty_spec_l05Store)] ++ (Lb ++ Lk)) ∧ Asc ((keysOf (bs.map BR.pb)).take (j + 1))) (fun _ w6 hJ => ?_) ?_
      · obtain ⟨h6, hasc1⟩ := hJ
        refine r_any fun _ => ?_
        refine r_join (σ := Unit) (fun _ w' => ∃ (sb' : Sl) (Lb' : List Blk), At w w' ([(b6, (u8s b.pb.key).toArray, ty_impl_Key), (b8, #[.slice sb'.a sb'.n sb'.c, .slice sk.a sk.n sk.c], ty_spec_l05Store)] ++ (Lb' ++ Lk)) ∧ sb'.n = j + 1 ∧ OwnS ty_impl_Blob 2 sb' ((bs.take (j + 1)).flatMap BR.cells) Lb') (fun _ w7 hJ => ?_) ?_
        · obtain ⟨sb', Lb', h7, hbn', hOb'⟩ := hJ
          refine r_any fun _ => ?_
          refine r_draw h7 fun w8 h8 => ?_
          refine r_ld h8 1 rfl (add_lit _ _ _) sk (by simp [Sh.emb]) rfl ?_
          refine r_ldA h8 0 rfl rfl (by simpa using hk32) ?_
          refine r_bs1A T_sl_Key h8 (by simpa [Value.cells] using hk32) (by omega) fun y w9 h9 _ hy hyn => ?_
          refine r_chk1 ?_ ?_
          · exact ldOk_own h9 1 rfl 1 rfl (by simp [Sh.emb])
          have h9' : At w w9 (Lk ++ ([(b6, (u8s b.pb.key).toArray, ty_impl_Key), (b8, #[.slice sb'.a sb'.n sb'.c, .slice sk.a sk.n sk.c], ty_spec_l05Store)] ++ Lb')) := by
            rw [← List.append_assoc] at h9
            exact h9.swap
          refine r_append T_sl_Key (hOk.slo h9') hy (by simpa [Value.cells] using u8s_one) (by omega) (by omega) fun sk' w10 hS hn10 => ?_
          obtain ⟨Lk', hOk', hA10⟩ := hS.split
          have hA10 := hA10.swap
          rw [List.append_assoc] at hA10
          refine r_st hA10 1 (o := 1) rfl (add_lit _ _ _) (by simp) rfl fun w11 h11 => ?_
          refine ⟨((j + 1 : Nat) : Int), by rw [w64 (by omega) (by omega)]; rfl, ⟨j + 1, sk', sb', Lk', Lb', rfl, by omega, by omega, hbn', ?_, hasc1, ?_, hOb', h11.tail⟩, by omega⟩
          · intro c hc
            rw [take_succ_get hb, List.mem_append, List.mem_singleton] at hc
            rcases hc with hc | rfl
            · exact h1024 c hc
            · exact hb1024
          · rw [take_succ_get hkj, List.flatMap_append]
            simpa [Value.cells] using hOk'
        · refine r_draw h6 fun w8 h8 => ?_
          refine r_ld h8 1 rfl (add_lit _ _ _) sb (by simp [Sh.emb]) rfl ?_
          refine r_ldO h8 s (hp 1) (by simp) ?_
          refine r_ix q hq (by omega) (by omega) ?_
          obtain ⟨b', q', hb', hbm', hq', hok', hag', _, _⟩ := (hs.at h8.nil).get (i := j) (by omega)
          rw [hb] at hb'
          cases hb'
          rw [hq] at hq'
          cases hq'
          refine r_ldN b.cells.toArray (by simp only [Int.toNat_natCast]; exact hag') ?_
          refine r_bs1A T_sl_Blob h8 (by simp [Value.cells, BR.cells]) (by omega) fun y w9 h9 _ hy hyn => ?_
          refine r_chk2 ?_ ?_ ?_
          · exact ldOk_below h9.below (hp 1)
          · exact ldOk_own h9 1 rfl 0 rfl (by simp [Sh.emb])
          refine r_append T_sl_Blob (hOb.slo h9.rot) hy (by simpa [Value.cells] using cells_one b) (by omega) (by omega) fun sb' w10 hS hn10 => ?_
          obtain ⟨Lb', hOb', hA10⟩ := hS.split
          have hA10 := hA10.rot
          refine r_chk1 ?_ ?_
          · exact ldOk_below hA10.below (hp 1)
          refine r_st hA10 1 (o := 0) rfl (add_lit _ _ _) (by simp) rfl fun w11 h11 => ?_
          refine ⟨(), rfl, sb', Lb', h11, by omega, ?_⟩
          rw [take_succ_get hb, List.flatMap_append]
          simpa [Value.cells] using hOb'
      · refine r_draw h5 fun w6 h6 => ?_
        have h6 : At w w6 ([(b6, (u8s b.pb.key).toArray, ty_impl_Key), (b8, #[.slice sb.a sb.n sb.c, .slice sk.a sk.n sk.c], ty_spec_l05Store)] ++ (Lb ++ Lk)) := h6
        refine r_if ((j : Int) > 0) rfl (fun hpos => ?_) (fun h0 => ?_)
        · obtain ⟨x, hx⟩ : ∃ x, (keysOf (bs.map BR.pb))[j - 1]? = some x := ⟨_, List.getElem?_eq_getElem (by rw [keysOf_len]; simp; omega)⟩
          have hxo : keyOk x := keysOf_ok _ x (List.mem_of_getElem? hx)
          have hrd : KsR w6 sk ((keysOf (bs.map BR.pb)).take j) := ownS_ks hOk h6 ((List.sublist_append_right _ _).trans (List.sublist_append_right _ _)) (fun k hk => keysOf_ok _ k (List.mem_of_mem_take hk))
          obtain ⟨x', q', hx', _, hq', _, hxl⟩ := hrd.get (i := j - 1) (by rw [List.length_take, keysOf_len]; simp; omega)
          rw [List.getElem?_take, if_pos (by omega), hx] at hx'
          cases hx'
          have e1 : IntKind.wrap .i64 ((j : Int) - 1) = ((j - 1 : Nat) : Int) := by rw [w64 (by omega) (by omega)]; omega
          rw [e1]
          have hcmp : ∀ K : Int → World → Prop, (∀ w', At w w' ([(b6, (u8s b.pb.key).toArray, ty_impl_Key), (b8, #[.slice sb.a sb.n sb.c, .slice sk.a sk.n sk.c], ty_spec_l05Store)] ++ (Lb ++ Lk)) → K (cmpL x b.pb.key) w') →
              ((real Try.prog (RR w [.optr, .bool] fun r w' => r.2 = decide (validS (bs.map BR.pb)) ∧ ∃ b, r.1 = some ⟨b, 0, none⟩ ∧ (validS (bs.map BR.pb) → ∃ L, At w w' L ∧ SpecO b (keysOf (bs.map BR.pb)) bs L))).call n_spec_l01Compare [(.agg (u8s x).toArray), (.agg (u8s b.pb.key).toArray)] [(.int .i64)] K : World → Prop) w6 :=
            fun K hK => r_call h6 (c_l01Compare hxo.1 b.pb.key_ok.1 w6) fun r w7 h7 _ hr => by subst hr; exact hK w7 h7
          have hnot : cmpL x b.pb.key ≥ 0 → ¬ validS (bs.map BR.pb) := fun hc hv => by
            obtain ⟨i1, i2⟩ := List.getElem?_eq_some_iff.1 hx
            obtain ⟨j1, j2⟩ := List.getElem?_eq_some_iff.1 hkj
            have := List.pairwise_iff_getElem.1 hv.2.2 (j - 1) j i1 j1 (by omega)
            rw [i2, j2] at this
            unfold ltL at this
            omega
          have hyes : ¬ cmpL x b.pb.key ≥ 0 → Asc ((keysOf (bs.map BR.pb)).take (j + 1)) := fun hc => by
            rw [take_succ_get hkj]
            refine asc_snoc hasc fun y hy => ?_
            rw [getLast_take' (by omega) hx] at hy
            cases hy
            unfold ltL
            omega
          refine r_all2 ?_ ?_
          · refine r_ld h6 1 rfl (add_lit _ _ _) sk (by simp [Sh.emb]) rfl ?_
            refine r_ix q' hq' (by omega) (by omega) ?_
            refine r_all2 ?_ ?_
            · refine r_ldN (u8s x).toArray (by simp only [Int.toNat_natCast]; exact hxl) ?_
              refine r_ldA h6 0 rfl rfl (by simpa using hk32) ?_
              refine hcmp _ fun w7 h7 => ?_
              refine r_if (cmpL x b.pb.key ≥ 0) rfl (fun hc => bad h7 (hnot hc)) (fun hc => ⟨(), rfl, h7, hyes hc⟩)
            · refine r_ldA h6 0 rfl rfl (by simpa using hk32) ?_
              refine r_ldN (u8s x).toArray (by simp only [Int.toNat_natCast]; exact hxl) ?_
              refine hcmp _ fun w7 h7 => ?_
              refine r_if (cmpL x b.pb.key ≥ 0) rfl (fun hc => bad h7 (hnot hc)) (fun hc => ⟨(), rfl, h7, hyes hc⟩)
          · refine r_ldA h6 0 rfl rfl (by simpa using hk32) ?_
            refine r_ld h6 1 rfl (add_lit _ _ _) sk (by simp [Sh.emb]) rfl ?_
            refine r_ix q' hq' (by omega) (by omega) ?_
            refine r_ldN (u8s x).toArray (by simp only [Int.toNat_natCast]; exact hxl) ?_
            refine hcmp _ fun w7 h7 => ?_
            refine r_if (cmpL x b.pb.key ≥ 0) rfl (fun hc => bad h7 (hnot hc)) (fun hc => ⟨(), rfl, h7, hyes hc⟩)
        · have : j = 0 := by omega
          subst this
          have hdone : At w w6 ([(b6, (u8s b.pb.key).toArray, ty_impl_Key), (b8, #[.slice sb.a sb.n sb.c, .slice sk.a sk.n sk.c], ty_spec_l05Store)] ++ (Lb ++ Lk)) ∧ Asc ((keysOf (bs.map BR.pb)).take (0 + 1)) := by
            refine ⟨h6, ?_⟩
            rw [take_succ_get hkj]
            exact asc_snoc .nil (by simp)
          exact ⟨⟨⟨(), rfl, hdone⟩, ⟨(), rfl, hdone⟩⟩, ⟨(), rfl, hdone⟩⟩
    · rw [decide_eq_false hb1024]
      refine r_true rfl ?_
      exact bad h fun hv => hb1024 (hv.2.1 b.pb (List.mem_map_of_mem hbm))
  · have : j = bs.length := by omega
    subst this
    rw [List.take_of_length_le (Nat.le_refl _)] at h1024 hOb
    rw [List.take_of_length_le (by simp [keysOf])] at hasc hOk
    have hv : validS (bs.map BR.pb) := ⟨by simp; omega, fun b hb => by obtain ⟨x, hx, rfl⟩ := List.mem_map.1 hb; exact h1024 x hx, hasc⟩
    exact r_ret h.nil (some ⟨b8, 0, none⟩, true) rfl ⟨(decide_eq_true hv).symm, b8, rfl, fun _ => ⟨_, h, sk, sb, Lk, Lb, rfl, hOk, hOb⟩⟩)

end Go.Proofs.Ytkifkdkjljcclaa

namespace Go.Proofs.Ytkifkdkjljcclaa
open Go.Sx Go.RowKit

def RdKey (_ : World) (r : Array Value) (k : List Int) : Prop := r = (u8s k).toArray ∧ keyOk k
theorem RdKey.below {w w' : World} {r : Array Value} {k : List Int} (h : RdKey w r k) (_ : Below w.heap.size w w') : RdKey w' r k := h
theorem RdKey.at {w w' : World} {ls : List Blk} {r : Array Value} {k : List Int} (h : RdKey w r k) (_ : At w w' ls) : RdKey w' r k := h
def OwnKey (r : Array Value) (k : List Int) (L : List Blk) : Prop := r = (u8s k).toArray ∧ keyOk k ∧ L = []
theorem OwnKey.rd {w0 w : World} {r : Array Value} {k : List Int} {L ls : List Blk} (h : OwnKey r k L) (_ : At w0 w (L ++ ls)) : RdKey w r k := ⟨h.1, h.2.1⟩
def RdStore (w : World) (r : Array Value) (B : List PB) : Prop := ∃ (s : Sl) (bs : List BR), r = #[.slice s.a s.n s.c] ∧ bs.map BR.pb = B ∧ BsR w s bs
theorem RdStore.below {w w' : World} {r : Array Value} {B : List PB} (h : RdStore w r B) (hb : Below w.heap.size w w') : RdStore w' r B := let ⟨s, bs, h1, h2, h3⟩ := h; ⟨s, bs, h1, h2, h3.below hb⟩
theorem RdStore.at {w w' : World} {ls : List Blk} {r : Array Value} {B : List PB} (h : RdStore w r B) (hA : At w w' ls) : RdStore w' r B := h.below hA.below
def OwnStore (r : Array Value) (B : List PB) (L : List Blk) : Prop := ∃ (s : Sl) (bs : List BR), r = #[.slice s.a s.n s.c] ∧ bs.map BR.pb = B ∧ OwnBs s bs L ∧ ∀ b ∈ B, b.ok
theorem OwnStore.rd {w0 w : World} {r : Array Value} {B : List PB} {L ls : List Blk} (h : OwnStore r B L) (hA : At w0 w (L ++ ls)) : RdStore w r B := by
  obtain ⟨s, bs, h1, h2, h3, h4⟩ := h
  exact ⟨s, bs, h1, h2, h3.rd hA (by rw [h2]; exact h4)⟩
theorem OwnStore.nil : OwnStore #[.slice none 0 0] [] [] := ⟨⟨none, 0, 0⟩, [], rfl, rfl, ⟨[], [], rfl, OwnS.nil _ _, .nil⟩, by simp⟩
theorem data_le_sizeBs {B : List PB} {b : PB} (h : b ∈ B) : b.data.length ≤ sizeBs B := by
  induction B with
  | nil => cases h
  | cons c B ih =>
    have hc : sizeBs (c :: B) = 1 + c.data.length + sizeBs B := by simp [sizeBs]; omega
    cases h with
    | head => omega
    | tail _ h => have := ih h; omega
theorem RdStore.ok {w : World} {r : Array Value} {B : List PB} (h : RdStore w r B) : ∀ b ∈ B, b.ok := by
  obtain ⟨s, bs, _, rfl, h3⟩ := h
  exact h3.pbs
def RawStore (w : World) (r : Array Value) (B : List PB) : Prop := ∃ (s : Sl) (bs : List BR), r = #[.slice s.a s.n s.c] ∧ bs.map BR.pb = B ∧ BsR w s bs ∧ s.c ≤ maxLen ∧ ∀ b ∈ bs, b.d.c ≤ maxLen
theorem RawStore.rd {w : World} {r : Array Value} {B : List PB} (h : RawStore w r B) : RdStore w r B := let ⟨s, bs, h1, h2, h3, _⟩ := h; ⟨s, bs, h1, h2, h3⟩

theorem c_szStoreV {w : World} {r : Array Value} {B : List PB} (h : RawStore w r B) {w1 : World} (hb : Below w.heap.size w w1) (m : Int) (hm : 0 ≤ m ∧ m ≤ 1073741824) : Ret Try.prog n_laws_szStore [.agg r, .int .i64 m] w1 [.int .i64] (fun x _ => x = if (sizeBs B : Int) ≤ m then m - sizeBs B else -1) := by
  obtain ⟨s, bs, rfl, rfl, h3, h4, h5⟩ := h
  unfold maxLen at h4 h5
  exact c_szStore (h3.below hb) m hm h4 fun b hb => by have := (h3.ok b hb).bytes.cap; have := h5 b hb; omega
theorem c_toStoreV {w : World} {r : Array Value} {B : List PB} (h : RdStore w r B) (hz : sizeBs B ≤ 1073741824) : Ret Try.prog n_laws_toStore [.agg r] w [.agg] (fun r' w' => ∃ L, At w w' L ∧ OwnStore r' B L) := by
  have hok := h.ok
  obtain ⟨s, bs, rfl, rfl, h3⟩ := h
  have hl := le_sizeBs (bs.map BR.pb)
  rw [List.length_map] at hl
  refine (c_toStore h3 (by omega) fun b hb => ?_).mono fun x w' _ ⟨t, bs', L, h1, h2, h3, h4⟩ => ⟨L, h3, t, bs', h1, h2, h4, hok⟩
  have := data_le_sizeBs (List.mem_map_of_mem (f := BR.pb) hb)
  simp only [BR.pb] at this
  omega
theorem c_eqStoreV {w : World} {r r' : Array Value} {B : List PB} (h : RdStore w r B) (h' : RdStore w r' B) (hz : sizeBs B ≤ 1073741824) : Ret Try.prog n_laws_eqStore [.agg r, .agg r'] w [.bool] (fun x _ => x = true) := by
  obtain ⟨s, bs, rfl, rfl, h3⟩ := h
  obtain ⟨s', bs', rfl, h2, h3'⟩ := h'
  have hl := le_sizeBs (bs.map BR.pb)
  rw [List.length_map] at hl
  refine c_eqStore h3 h3' h2.symm (by omega) fun b hb => ?_
  have := data_le_sizeBs (List.mem_map_of_mem (f := BR.pb) hb)
  simp only [BR.pb] at this
  omega
theorem c_markStoreV {w0 w : World} {ls L : List Blk} {r : Array Value} {B : List PB} (hA : At w0 w (L ++ ls)) (hO : OwnStore r B L) (k : Int) (h0 : 0 ≤ k) (hmax : k + sizeBs B ≤ 4611686018427387904) :
    Calls Try.prog n_laws_markStore [.agg r, .int .i64 k].toArray w fun e w' => ∃ v, e = .returned v ∧ v = .int .i64 (k + sizeBs B) ∧ ∃ L', At w0 w' (L' ++ ls) ∧ OwnStore r (markB k B) L' := by
  obtain ⟨s, bs, rfl, rfl, h3, h4⟩ := hO
  refine (c_markStore hA h3 k h0 hmax).mono ?_
  rintro e w' ⟨v, he, hv, bs', L', hA', hO', hm⟩
  exact ⟨v, he, hv, L', hA', s, bs', rfl, hm, hO', markB_ok _ _⟩
def RdBlob (w : World) (r : Array Value) (B : PB) : Prop := ∃ b : BR, r = b.cells.toArray ∧ b.pb = B ∧ b.Ok w
theorem RdBlob.below {w w' : World} {r : Array Value} {B : PB} (h : RdBlob w r B) (hb : Below w.heap.size w w') : RdBlob w' r B := let ⟨b, h1, h2, h3⟩ := h; ⟨b, h1, h2, h3.below hb⟩
theorem RdBlob.at {w w' : World} {ls : List Blk} {r : Array Value} {B : PB} (h : RdBlob w r B) (hA : At w w' ls) : RdBlob w' r B := h.below hA.below
def OwnBlob (r : Array Value) (B : PB) (L : List Blk) : Prop := ∃ b : BR, r = b.cells.toArray ∧ b.pb = B ∧ OwnS ty_uint8 1 b.d (u8s b.data) L ∧ B.ok
theorem OwnBlob.rd {w0 w : World} {r : Array Value} {B : PB} {L ls : List Blk} (h : OwnBlob r B L) (hA : At w0 w (L ++ ls)) : RdBlob w r B := by
  obtain ⟨b, h1, rfl, h3, h4⟩ := h
  exact ⟨b, h1, rfl, ownS_bytes h3 hA (List.sublist_append_left _ _) h4.1, h4.2.1, h4.2.2⟩
theorem OwnBlob.nil : OwnBlob #[.int .u8 0, .slice none 0 0] ⟨0, []⟩ [] := ⟨⟨0, ⟨none, 0, 0⟩, []⟩, rfl, rfl, OwnS.nil _ _, (fun b hb => absurd hb (by simp)), by decide, by decide⟩
end Go.Proofs.Ytkifkdkjljcclaa
