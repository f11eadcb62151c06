/- History: WayTo: the program. -/
import Derived.Test.YtaadgdbegpmlmaaGreatPkLWT33
namespace Go.Proofs.YtaadgdbegpmlmaaGreat
open Go.Sx Go.RowKit

theorem cmpKs_drop {x y : List (List Int)} {j : Nat} (hj : j < x.length) (hl : x.length = y.length) : cmpKs (x.drop j) (y.drop j) = if cmpL (x.getD j []) (y.getD j []) ≠ 0 then cmpL (x.getD j []) (y.getD j []) else cmpKs (x.drop (j + 1)) (y.drop (j + 1)) := by
  rw [List.drop_eq_getElem_cons hj, List.drop_eq_getElem_cons (show j < y.length by omega)]
  have e1 : x.getD j [] = x[j] := by simp [List.getD, hj]
  have e2 : y.getD j [] = y[j] := by simp [List.getD, show j < y.length by omega]
  rw [e1, e2]
  rfl
theorem c_CompareFuncKs {w : World} {s t : Sl} {x y : List (List Int)} (hs : KsR w s x) (ht : KsR w t y) (hl : x.length = y.length) (hmax : x.length ≤ 1073741824) :
    Ret Tryz.prog n_slices_CompareFunc_sl_impl_Key_sl_impl_Key_impl_Key_impl_Key [.slice s.a s.n s.c, .slice t.a t.n t.c, .func (.func n_impl_compareKeys) #[] #[]] w [.int .i64] (fun r _ => r = cmpKs x y) := slices_CompareFunc_sl_impl_Key_sl_impl_Key_impl_Key_impl_Key_calls _ _ _ (by
  unfold slices_CompareFunc_sl_impl_Key_sl_impl_Key_impl_Key_impl_Key
  have hsn := hs.n
  have htn := ht.n
  refine r_loop (σ := Int) (fun st w' => ∃ j : Nat, st = j ∧ j ≤ x.length ∧ cmpKs x y = cmpKs (x.drop j) (y.drop j) ∧ At w w' []) (fun st _ => (s.n - st).toNat) 0 rfl ⟨0, rfl, by omega, by simp, At.refl w⟩ ?_
  rintro i w1 ⟨j, rfl, hj, he, h⟩
  refine r_any fun _ => ?_
  dsimp only
  refine r_if ((j : Int) < (s.n : Int)) rfl (fun hlt => ?_) (fun hge => ?_)
  · obtain ⟨k, q, hk, hkm, hq, hko, hkl⟩ := (hs.at h).get (i := j) (by omega)
    obtain ⟨k2, q2, hk2, hkm2, hq2, hko2, hkl2⟩ := (ht.at h).get (i := j) (by omega)
    refine r_ix q hq (by omega) (by omega) ?_
    simp only [Int.toNat_natCast]
    refine r_ldN (u8s k).toArray hkl ?_
    refine r_new h fun b8 w2 h => ?_
    refine r_stA h 0 rfl rfl (by simp [hko.1]) (by simp [Value.cells]) (by simpa using u8s_one) fun w3 h => ?_
    refine r_if ((j : Int) ≥ (t.n : Int)) rfl (fun hh => by omega) (fun _ => ?_)
    obtain ⟨k2', q2', hk2', _, hq2', _, hkl2'⟩ := (ht.at h).get (i := j) (by omega)
    rw [hk2] at hk2'
    cases hk2'
    refine r_ix q2' hq2' (by omega) (by omega) ?_
    simp only [Int.toNat_natCast]
    refine r_ldN (u8s k2).toArray hkl2' ?_
    refine r_new h fun b9 w4 h => ?_
    refine r_stA h 0 rfl rfl (by simp [hko2.1]) (by simp [Value.cells]) (by simpa using u8s_one) fun w5 h => ?_
    have h : At w w5 [(b9, (u8s k2).toArray, ty_impl_Key), (b8, (u8s k).toArray, ty_impl_Key)] := h
    refine r_ldA h 1 rfl rfl (by simp [hko.1]) ?_
    refine r_ldA h 0 rfl rfl (by simp [hko2.1]) ?_
    refine r_callV h go_compareKeys (c_compareKeys hko.1 hko2.1 _) fun r w6 h _ hr => ?_
    subst hr
    have hd := cmpKs_drop (y := y) (show j < x.length by omega) hl
    have e1 : x.getD j [] = k := by simp [List.getD, hk]
    have e2 : y.getD j [] = k2 := by simp [List.getD, hk2]
    rw [e1, e2] at hd
    refine r_ne (fun hne => ?_) (fun heq => ?_)
    · rw [if_pos hne] at hd
      exact r_ret h.nil _ rfl (by rw [he, hd])
    · rw [if_neg (by simpa using heq)] at hd
      exact ⟨((j + 1 : Nat) : Int), by rw [w64 (by omega) (by omega)]; rfl, ⟨j + 1, rfl, by omega, by rw [he, hd], h.nil⟩, by omega⟩
  · refine r_if ((s.n : Int) < (t.n : Int)) rfl (fun hh => by omega) (fun _ => ?_)
    have e : cmpKs x y = 0 := by
      rw [he, List.drop_eq_nil_of_le (by omega)]
      unfold cmpKs
      rfl
    exact r_ret h.nil 0 rfl e.symm)
theorem c_l07Sooner {w : World} {s t : Sl} {x y : List (List Int)} (hs : KsR w s x) (ht : KsR w t y) (hmax : x.length ≤ 1073741824) :
    Ret Tryz.prog n_spec_l07Sooner [.slice s.a s.n s.c, .slice t.a t.n t.c] w [.bool] (fun r _ => r = sooner x y) := spec_l07Sooner_calls _ _ (by
  unfold spec_l07Sooner
  have hsn := hs.n
  have htn := ht.n
  refine r_ne (fun hne => ?_) (fun heq => ?_)
  · refine r_ret (At.refl w) _ rfl ?_
    unfold sooner
    rw [if_pos (by omega), hsn, htn]
    congr 1
    simp
  have hl : x.length = y.length := by omega
  have hso : sooner x y = decide (cmpKs x y < 0) := by unfold sooner; rw [if_neg (by simpa using hl)]
  rw [hso]
  refine r_loop (σ := Int) (fun st w' => ∃ j : Nat, st = j ∧ j ≤ x.length ∧ cmpKs x y = cmpKs (x.drop j) (y.drop j) ∧ At w w' []) (fun st _ => (s.n - st).toNat) 0 rfl ⟨0, rfl, by omega, by simp, At.refl w⟩ ?_
  rintro i w1 ⟨j, rfl, hj, he, h⟩
  refine r_any fun _ => ?_
  dsimp only
  refine r_if ((j : Int) < (s.n : Int)) rfl (fun hlt => ?_) (fun hge => ?_)
  · refine r_draw h fun w2 h => ?_
    obtain ⟨k, q, hk, hkm, hq, hko, hkl⟩ := (hs.at h).get (i := j) (by omega)
    obtain ⟨k2, q2, hk2, hkm2, hq2, hko2, hkl2⟩ := (ht.at h).get (i := j) (by omega)
    refine r_ix q hq (by omega) (by omega) ?_
    simp only [Int.toNat_natCast]
    refine r_ldN (u8s k).toArray hkl ?_
    refine r_ix q2 hq2 (by omega) (by omega) ?_
    simp only [Int.toNat_natCast]
    refine r_ldN (u8s k2).toArray hkl2 ?_
    refine r_call h (c_l01Compare hko.1 hko2.1 _) fun r w3 h _ hr => ?_
    subst hr
    have hd := cmpKs_drop (y := y) (show j < x.length by omega) hl
    have e1 : x.getD j [] = k := by simp [List.getD, hk]
    have e2 : y.getD j [] = k2 := by simp [List.getD, hk2]
    rw [e1, e2] at hd
    refine r_ne (fun hne => ?_) (fun heq => ?_)
    · rw [if_pos hne] at hd
      exact r_ret h.nil _ rfl (by rw [he, hd])
    · rw [if_neg (by simpa using heq)] at hd
      exact ⟨((j + 1 : Nat) : Int), by rw [w64 (by omega) (by omega)]; rfl, ⟨j + 1, rfl, by omega, by rw [he, hd], h.nil⟩, by omega⟩
  · have e : cmpKs x y = 0 := by
      rw [he, List.drop_eq_nil_of_le (by omega)]
      unfold cmpKs
      rfl
    exact r_ret h.nil false rfl (by rw [e]; rfl))

theorem r_sooner {R : Value → World → Prop} {w0 w : World} {ls : List Blk} {x y : List (List Int)} {s t : Sl} (hA : At w0 w ls) (hs : KsR w s x) (ht : KsR w t y) (hmax : x.length ≤ 1073741824) {A B : World → Prop}
    (h1 : ∀ w', At w0 w' ls → Below w.heap.size w w' → (y = [] ∨ sooner x y = true) → A w') (h2 : ∀ w', At w0 w' ls → Below w.heap.size w w' → ¬ (y = [] ∨ sooner x y = true) → B w') :
    (cond (!decide (y ≠ [])) A (cond (decide ((s.n : Int) < (t.n : Int))) A (cond ((s.n : Int) == (t.n : Int)) ((real Tryz.prog R).call n_slices_CompareFunc_sl_impl_Key_sl_impl_Key_impl_Key_impl_Key [(.slice s.a s.n s.c), (.slice t.a t.n t.c), (.func (.func n_impl_compareKeys) #[] #[])] [(.int .i64)] fun r => cond (decide (r < 0)) A B) B)) : World → Prop) w := by
  have hsn := hs.n
  have htn := ht.n
  by_cases hy : y = []
  · refine r_true (by simp [hy]) ?_
    exact h1 w hA (Below.refl _ _) (.inl hy)
  refine r_false (by simp [hy]) ?_
  refine r_if ((s.n : Int) < (t.n : Int)) rfl (fun hlt => ?_) (fun hge => ?_)
  · refine h1 w hA (Below.refl _ _) (.inr ?_)
    unfold sooner
    rw [if_pos (by omega)]
    exact decide_eq_true (by omega)
  refine r_eq (fun heq => ?_) (fun hne => ?_)
  · have hl : x.length = y.length := by omega
    have hso : sooner x y = decide (cmpKs x y < 0) := by unfold sooner; rw [if_neg (by simpa using hl)]
    refine r_call hA (c_CompareFuncKs hs ht hl hmax) fun r w1 h1' hb hr => ?_
    subst hr
    refine r_if (cmpKs x y < 0) rfl (fun hlt => ?_) (fun hge2 => ?_)
    · exact h1 w1 h1' hb (.inr (by rw [hso]; exact decide_eq_true hlt))
    · refine h2 w1 h1' hb ?_
      rw [hso]
      simp [hy]
      omega
  · refine h2 w hA (Below.refl _ _) ?_
    have : sooner x y = false := by
      unfold sooner
      rw [if_pos (by omega)]
      exact decide_eq_false (by omega)
    rw [this]
    simp [hy]

theorem setW_set (W : Nat → List (List Int)) (n : Nat) (x y : List (List Int)) : setW (setW W n x) n y = setW W n y := by
  funext j
  unfold setW
  split <;> rfl
theorem setW_none {W : Nat → List (List Int)} {n : Nat} (h : W n = []) : setW W n [] = W := by
  funext j
  unfold setW
  split
  · rename_i hj; rw [hj, h]
  · rfl
def curW (b : PBk) (a : List Int) (i j : Nat) : List (List Int) := ((comAt b i).ps.take j).foldl (viaW (waysW b a i) (keysB b) (ckey (comAt b i))) []
def wayW (b : PBk) (a : List Int) (i j : Nat) : Nat → List (List Int) := if i = ixK (keysB b) a then waysW b a i else setW (waysW b a i) i (curW b a i j)
theorem wayW_zero (b : PBk) (a : List Int) (i : Nat) : wayW b a i 0 = waysW b a i := by
  unfold wayW
  split
  · rfl
  · rename_i h
    exact setW_none (waysW_later b a (Nat.le_refl i) h)
theorem wayW_last (b : PBk) (a : List Int) (i : Nat) : wayW b a i (comAt b i).ps.length = waysW b a (i + 1) := by
  unfold wayW curW
  rw [List.take_of_length_le (Nat.le_refl _)]
  rfl
theorem curW_succ {b : PBk} {a : List Int} {i j : Nat} {p : List Int} (hp : (comAt b i).ps[j]? = some p) : curW b a i (j + 1) = viaW (waysW b a i) (keysB b) (ckey (comAt b i)) (curW b a i j) p := by
  unfold curW
  rw [take_succ_get hp, List.foldl_append]
  rfl
theorem wayW_succ {b : PBk} {a : List Int} {i j : Nat} {p : List Int} (hp : (comAt b i).ps[j]? = some p) (hne : i ≠ ixK (keysB b) a) : wayW b a i (j + 1) = setW (wayW b a i j) i (viaW (waysW b a i) (keysB b) (ckey (comAt b i)) (curW b a i j) p) := by
  unfold wayW
  rw [if_neg hne, if_neg hne, curW_succ hp, setW_set]
theorem wayW_own {b : PBk} {a : List Int} {i j : Nat} (hne : i ≠ ixK (keysB b) a) : wayW b a i j i = curW b a i j := by
  unfold wayW setW
  rw [if_neg hne, if_pos rfl]
theorem wayW_other {b : PBk} {a : List Int} {i j n : Nat} (h : n ≠ i) : wayW b a i j n = waysW b a i n := by
  unfold wayW
  split
  · rfl
  · unfold setW
    rw [if_neg h]
def WaysM (K : List (List Int)) (W : Nat → List (List Int)) (m : List (List Int × Value)) (LW : List Blk) : Prop :=
  ∀ k ∈ K, (m.lookup k = none ∧ W (ixK K k) = []) ∨ ∃ s L, m.lookup k = some (.slice s.a s.n s.c) ∧ W (ixK K k) ≠ [] ∧ OwnKeyS s (W (ixK K k)) L ∧ L.Sublist LW
theorem ixK_inj {K : List (List Int)} {a k : List Int} (ha : a ∈ K) (hk : k ∈ K) (h : ixK K a = ixK K k) : a = k := by
  have h1 := ixK_get ha
  have h2 := ixK_get hk
  rw [h, h2] at h1
  exact (Option.some.inj h1).symm
theorem WaysM.put {K : List (List Int)} {W : Nat → List (List Int)} {m m' : List (List Int × Value)} {LW Ls : List Blk} {own : List Int} {x : List (List Int)} {s : Sl} (h : WaysM K W m LW) (ho : own ∈ K) (hs : OwnKeyS s x Ls) (hx : x ≠ []) (hm : ∀ k', m'.lookup k' = if k' = own then some (.slice s.a s.n s.c) else m.lookup k') : WaysM K (setW W (ixK K own) x) m' (Ls ++ LW) := by
  intro k hk
  rw [hm]
  by_cases hko : k = own
  · subst hko
    rw [if_pos rfl]
    have e : setW W (ixK K k) x (ixK K k) = x := by unfold setW; rw [if_pos rfl]
    rw [e]
    exact .inr ⟨s, Ls, rfl, hx, hs, List.sublist_append_left _ _⟩
  · rw [if_neg hko]
    have e : setW W (ixK K own) x (ixK K k) = W (ixK K k) := by unfold setW; rw [if_neg (fun hh => hko (ixK_inj hk ho hh))]
    rw [e]
    rcases h k hk with h1 | ⟨s', L, h1, h2, h3, h4⟩
    · exact .inl h1
    · exact .inr ⟨s', L, h1, h2, h3, h4.trans (List.sublist_append_right _ _)⟩
theorem WaysM.start {b : PBk} {a : List Int} (ha : a ∈ keysB b) {m' : List (List Int × Value)} {s : Sl} {Ls : List Blk} (hs : OwnKeyS s [a] Ls) (hm : ∀ k', m'.lookup k' = if k' = a then some (.slice s.a s.n s.c) else none) : WaysM (keysB b) (waysW b a 0) m' Ls := by
  intro k hk
  rw [hm]
  by_cases hka : k = a
  · subst hka
    rw [if_pos rfl, waysW_start]
    exact .inr ⟨s, Ls, rfl, by simp, hs, List.Sublist.refl _⟩
  · rw [if_neg hka]
    exact .inl ⟨rfl, by rw [waysW_zero, if_neg (fun hh => hka (ixK_inj hk ha hh))]⟩
theorem ut_mapS : (Tryz.prog).underlying ty_map_impl_Key_sl_impl_Key = some (.map ty_impl_Key ty_sl_impl_Key) := by kernel_rfl
theorem zero_SK : ((Tryz.prog).info? ty_sl_impl_Key).bind (·.zero) = some (.slice none 0 0) := by kernel_rfl
/-- What a map of ways tells. -/
theorem look_way {K : List (List Int)} {W : Nat → List (List Int)} {m : List (List Int × Value)} {LW : List Blk} {w : World} {r : Nat} {o : Obj} (hW : WaysM K W m LW) (hM : w.heap[r]? = some o) (hm : MapIs o m) (hmn : ∀ p ∈ m, p.1.length = 32) {k : List Int} (hk : k ∈ K) (hko : keyOk k) :
    ∃ s L, OwnKeyS s (W (ixK K k)) L ∧ L.Sublist LW ∧ ∀ c, (Instr.lookup ty_map_impl_Key_sl_impl_Key (.map (some r)) (.agg (u8s k).toArray) c).run Tryz.prog w = .ok (if c then .tuple #[.slice s.a s.n s.c, .bool (decide (W (ixK K k) ≠ []))] else .slice s.a s.n s.c) w := by
  have hlook := fun c => run_lookup_u8 (w := w) ut_mapS ut_Key tyOf_byte zero_SK hko.1 hM hm hmn c
  rcases hW k hk with ⟨h1, h2⟩ | ⟨s, L, h1, h2, h3, h4⟩
  · refine ⟨⟨none, 0, 0⟩, [], by rw [h2]; exact OwnKeyS.none, List.nil_sublist _, fun c => ?_⟩
    have := hlook c
    rw [h1] at this
    rw [h2, decide_eq_false (by simp)]
    exact this
  · refine ⟨s, L, h3, h4, fun c => ?_⟩
    have := hlook c
    rw [h1] at this
    rw [decide_eq_true h2]
    exact this
theorem OwnKeyS.n {s : Sl} {ks : List (List Int)} {L : List Blk} (h : OwnKeyS s ks L) : s.n = ks.length := by
  have := h.1.1
  rw [flatMap_length (z := 32) (fun x hx => by rw [u8s_len]; exact (h.2 x hx).1)] at this
  omega
theorem wayW_same {b : PBk} {a : List Int} {i j : Nat} {p : List Int} (hp : (comAt b i).ps[j]? = some p) (h : waysW b a i (ixK (keysB b) p) = []) : wayW b a i (j + 1) = wayW b a i j := by
  unfold wayW
  rw [curW_succ hp, viaW_same _ _ _ _ h]
theorem wayW_at {b : PBk} {a : List Int} {i j : Nat} (h : i = ixK (keysB b) a) : wayW b a i j = waysW b a i := if_pos h
theorem OwnKeyS.ks {w0 w : World} {ls L : List Blk} {s : Sl} {ks : List (List Int)} (h : OwnKeyS s ks L) (hA : At w0 w ls) (hs : L.Sublist ls) : KsR w s ks := ownS_ks h.1 hA hs h.2
end Go.Proofs.YtaadgdbegpmlmaaGreat
