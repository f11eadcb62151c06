/- History: the shortest ways: plain; a key is laid into an own map, new or not. History: WayTo: the program. -/
import Derived.Test.YtkifkdkjljcclaaGreatPkLAnc34
namespace Go.Sx
open Go.RowKit (Below)
variable {P : Program} {R : Value → World → Prop} {w0 w : World} {ls : List Blk}

theorem lookup_snoc {m : List (List Int × Value)} {k : List Int} {v : Value} (h : m.lookup k = none) (k' : List Int) : (m ++ [(k, v)]).lookup k' = if k' = k then some v else m.lookup k' := by
  induction m with
  | nil =>
    by_cases hk : k' = k
    · subst hk; simp
    · have hb : (k' == k) = false := beq_eq_false_iff_ne.2 hk
      rw [if_neg hk]
      show (match (k' == k) with | true => some v | false => none) = none
      rw [hb]
  | cons p m ih =>
    obtain ⟨a, u⟩ := p
    have e : ∀ (m : List (List Int × Value)) (k : List Int), ((a, u) :: m).lookup k = if k = a then some u else m.lookup k := fun m k => by
      by_cases hk : k = a
      · subst hk; simp
      · have hb : (k == a) = false := beq_eq_false_iff_ne.2 hk
        rw [if_neg hk]
        show (match (k == a) with | true => some u | false => m.lookup k) = _
        rw [hb]
    rw [e] at h
    split at h
    · cases h
    · rename_i hka
      rw [List.cons_append, e, e, ih h]
      by_cases h1 : k' = a
      · have : k' ≠ k := fun hh => hka (hh ▸ h1)
        rw [if_pos h1, if_neg this, if_pos h1]
      · rw [if_neg h1, if_neg h1]
theorem sameBits_arr (k : List Int) : Instr.sameBits 10000 (arrK k) (arrK k) = true := by
  show Instr.sameBits (9999 + 1) (arrK k) (arrK k) = true
  unfold arrK
  simp only [Instr.sameBits, beq_self_eq_true, Bool.true_and, List.all_eq_true]
  intro p hp
  obtain ⟨i, hi, e⟩ := List.getElem_of_mem hp
  rw [List.getElem_zip] at e
  rw [← e]
  simp [Instr.sameBits]
theorem run_keyStays (k : List Int) (w : World) : (Instr.keyThatStays (arrK k) (arrK k)).run P w = .ok (arrK k) w := by simp [Instr.keyThatStays, sameBits_arr]

theorem run_findAt_u8 {t e n : Nat} (hu : P.underlying t = some (.array n e)) (he : tyOf P e = some (.int .u8, 1)) {k : List Int} (hk : k.length = n) (w : World) : ∀ (m : List (List Int × Value)) (es : List MapEntry) (i : Nat) (v0 : Value), es.map (fun e => (e.key, e.val)) = m.map (fun p => (arrK p.1, p.2)) → (∀ p ∈ m, p.1.length = n) → m.lookup k = some v0 →
    ∃ j, (Instr.findAsking t (arrK k) es i).run P w = .ok (some (i + j, v0)) w ∧ (es[j]?).map (·.key) = some (arrK k) ∧ ∀ v : Value, ∃ m' : List (List Int × Value), (es.modify j fun e => { e with key := arrK k, val := v }).map (fun e => (e.key, e.val)) = m'.map (fun p => (arrK p.1, p.2)) ∧ (∀ p ∈ m', p.1.length = n) ∧ ∀ k', m'.lookup k' = if k' = k then some v else m.lookup k'
  | [], es, i, v0, h, _, hl => by cases hl
  | (a, v) :: m, [], i, v0, h, _, hl => by simp at h
  | (a, v1) :: m, x :: es, i, v0, h, hn, hl => by
    simp only [List.map_cons, List.cons.injEq, Prod.mk.injEq] at h
    obtain ⟨⟨h1, h2⟩, h3⟩ := h
    have he1 := run_equal_u8 hu he hk (hn (a, v1) (by simp)) w
    have e : ∀ (u : Value) (m : List (List Int × Value)) (k : List Int), ((a, u) :: m).lookup k = if k = a then some u else m.lookup k := fun u m k => by
      by_cases hk : k = a
      · subst hk; simp
      · have hb : (k == a) = false := beq_eq_false_iff_ne.2 hk
        rw [if_neg hk]
        show (match (k == a) with | true => some u | false => m.lookup k) = _
        rw [hb]
    by_cases hka : k = a
    · subst hka
      rw [e, if_pos rfl] at hl
      cases hl
      refine ⟨0, by simp [Instr.findAsking, h1, h2, he1], by simp [h1], fun v => ⟨(k, v) :: m, by simp [h3], ?_, fun k' => ?_⟩⟩
      · intro p hp
        rcases List.mem_cons.1 hp with rfl | hp
        · exact hk
        · exact hn p (by simp [hp])
      · rw [e, e]
        split <;> rfl
    · rw [e, if_neg hka] at hl
      obtain ⟨j, hj, hkey, hm⟩ := run_findAt_u8 hu he hk w m es (i + 1) v0 h3 (fun p hp => hn p (by simp [hp])) hl
      refine ⟨j + 1, by simp [Instr.findAsking, h1, he1, hka, hj]; omega, by simpa using hkey, fun v => ?_⟩
      obtain ⟨m', hm1, hm2, hm3⟩ := hm v
      refine ⟨(a, v1) :: m', by simp [h1, h2, hm1], ?_, fun k' => ?_⟩
      · intro p hp
        rcases List.mem_cons.1 hp with rfl | hp
        · exact hn (a, v1) (by simp)
        · exact hm2 p hp
      · rw [e, e, hm3]
        by_cases h4 : k' = a
        · have : k' ≠ k := fun hh => hka (hh.symm.trans h4)
          rw [if_pos h4, if_neg this, if_pos h4]
        · rw [if_neg h4, if_neg h4]

theorem r_mapPut {t kt et e n : TypeId} (ht : P.underlying t = some (.map kt et)) (hu : P.underlying kt = some (.array n e)) (he : tyOf P e = some (.int .u8, 1)) {k : List Int} (hk : k.length = n) {r : Nat} {o : Obj} {m : List (List Int × Value)} {v : Value} {s : World → Prop} (hA : At w0 w ls) (hM : w.heap[r]? = some o) (hm : MapIs o m) (hr : w0.heap.size ≤ r) (hmn : ∀ p ∈ m, p.1.length = n)
    (h : ∀ w' o' m', At w0 w' ls → w'.heap[r]? = some o' → MapIs o' m' → (∀ p ∈ m', p.1.length = n) → (∀ k', m'.lookup k' = if k' = k then some v else m.lookup k') → s w') : ((real P R).eff (Instr.mapUpdate t (.map (some r)) (arrK k) v) s : World → Prop) w := by
  cases hl : m.lookup k with
  | none =>
    refine r_mapNew ht hu he hk hA hM hm hr hmn hl fun w' o' hA' hM' hm' => h w' o' _ hA' hM' hm' ?_ (lookup_snoc hl)
    intro p hp
    rcases List.mem_append.1 hp with hp | hp
    · exact hmn p hp
    · rw [List.mem_singleton.1 hp]; exact hk
  | some v0 =>
    have hno := hm.no
    obtain ⟨es, clk, rfl, hes⟩ := hm
    obtain ⟨j, hj, hkey, hset⟩ := run_findAt_u8 hu he hk w m es.toList 0 v0 hes hmn hl
    obtain ⟨m', h1, h2, h3⟩ := hset v
    rw [Nat.zero_add] at hj
    have hc : (Instr.checkKey false 10000 kt (arrK k)).run P w = .ok () w := run_checkKey_u8 hu he hk _ 9998 w
    have hg : (getObj r).run P w = .ok (.map es clk) w := by simp [getObj, Sem.run, hM]
    have hkey' : ((es[j]?).map (·.key)).getD (arrK k) = arrK k := by
      rw [Array.getElem?_toList] at hkey
      rw [hkey]
      rfl
    have hs : (setObj r (.map (es.modify j fun e => { e with key := arrK k, val := v }) clk)).run P w = .ok () { w with heap := w.heap.setIfInBounds r (.map (es.modify j fun e => { e with key := arrK k, val := v }) clk) } := by simp [setObj, Sem.run, hM]
    refine ⟨_, ?_, h _ (.map (es.modify j fun e => { e with key := arrK k, val := v }) clk) m' (hA.putMap (o' := .map (es.modify j fun e => { e with key := arrK k, val := v }) clk) hM hno hr) ?_ ⟨_, _, rfl, ?_⟩ h2 h3⟩
    · simp [Instr.mapUpdate, run_underlying ht, hg, hc, run_findKey_eq w (wide_arr hu), hj, hkey', run_keyStays, hs]
    · show (w.heap.setIfInBounds r _)[r]? = _
      rw [Array.getElem?_setIfInBounds_self_of_lt (lt_of_get hM)]
    · rw [Array.toList_modify]
      exact h1
end Go.Sx
namespace Go.Proofs.YtkifkdkjljcclaaGreat
open Go.Sx Go.RowKit

def cmpKs : List (List Int) → List (List Int) → Int
  | a :: r, b :: s => if cmpL a b ≠ 0 then cmpL a b else cmpKs r s
  | _, _ => 0
def sooner (x y : List (List Int)) : Bool := if x.length ≠ y.length then decide (x.length < y.length) else decide (cmpKs x y < 0)
def viaW (W : Nat → List (List Int)) (K : List (List Int)) (own : List Int) (cur : List (List Int)) (p : List Int) : List (List Int) :=
  if W (ixK K p) = [] then cur else if cur = [] ∨ sooner (W (ixK K p) ++ [own]) cur = true then W (ixK K p) ++ [own] else cur
def bestW (W : Nat → List (List Int)) (K : List (List Int)) (own : List Int) (ps : List (List Int)) : List (List Int) := ps.foldl (viaW W K own) []
def setW (W : Nat → List (List Int)) (n : Nat) (x : List (List Int)) : Nat → List (List Int) := fun j => if j = n then x else W j
def waysW (b : PBk) (a : List Int) : Nat → Nat → List (List Int)
  | 0 => fun j => if j = ixK (keysB b) a then [a] else []
  | n + 1 => if n = ixK (keysB b) a then waysW b a n else setW (waysW b a n) n (bestW (waysW b a n) (keysB b) (ckey (comAt b n)) (comAt b n).ps)
theorem waysW_zero (b : PBk) (a : List Int) (j : Nat) : waysW b a 0 j = if j = ixK (keysB b) a then [a] else [] := rfl
theorem waysW_start (b : PBk) (a : List Int) (n : Nat) : waysW b a n (ixK (keysB b) a) = [a] := by
  induction n with
  | zero => rw [waysW_zero, if_pos rfl]
  | succ n ih =>
    unfold waysW
    split
    · exact ih
    · rename_i hn
      unfold setW
      rw [if_neg (fun hh => hn hh.symm)]
      exact ih
theorem waysW_later (b : PBk) (a : List Int) {n j : Nat} (h : n ≤ j) (hj : j ≠ ixK (keysB b) a) : waysW b a n j = [] := by
  induction n with
  | zero => rw [waysW_zero, if_neg hj]
  | succ n ih =>
    unfold waysW
    split
    · exact ih (by omega)
    · unfold setW
      rw [if_neg (by omega)]
      exact ih (by omega)
theorem waysW_keep (b : PBk) (a : List Int) {n m j : Nat} (h : j < n) (hm : n ≤ m) : waysW b a m j = waysW b a n j := by
  induction m with
  | zero => omega
  | succ m ih =>
    rcases Nat.lt_or_ge n (m + 1) with h1 | h1
    · show (if m = ixK (keysB b) a then waysW b a m else setW (waysW b a m) m (bestW (waysW b a m) (keysB b) (ckey (comAt b m)) (comAt b m).ps)) j = _
      split
      · exact ih (by omega)
      · unfold setW
        rw [if_neg (by omega)]
        exact ih (by omega)
    · have : n = m + 1 := by omega
      rw [this]
theorem viaW_same (W : Nat → List (List Int)) (K : List (List Int)) (own : List Int) (cur : List (List Int)) {p : List Int} (h : W (ixK K p) = []) : viaW W K own cur p = cur := if_pos h
theorem bestW_none {W : Nat → List (List Int)} {K : List (List Int)} {own : List Int} {ps : List (List Int)} (h : ∀ p ∈ ps, W (ixK K p) = []) : bestW W K own ps = [] := by
  unfold bestW
  have : ∀ (ps cur : List (List Int)), (∀ p ∈ ps, W (ixK K p) = []) → ps.foldl (viaW W K own) cur = cur := by
    intro ps
    induction ps with
    | nil => intro cur _; rfl
    | cons p r ih =>
      intro cur h
      rw [List.foldl_cons, viaW_same W K own cur (h p (by simp))]
      exact ih cur fun q hq => h q (by simp [hq])
  exact this ps [] h
theorem viaW_ne {W : Nat → List (List Int)} {K : List (List Int)} {own : List Int} {cur : List (List Int)} {p : List Int} (h : cur ≠ [] ∨ W (ixK K p) ≠ []) : viaW W K own cur p ≠ [] := by
  unfold viaW
  split
  · rename_i h1
    rcases h with h | h
    · exact h
    · exact absurd h1 h
  · split
    · simp
    · rename_i h2
      intro hh
      exact h2 (.inl hh)
theorem bestW_some {W : Nat → List (List Int)} {K : List (List Int)} {own : List Int} : ∀ {ps cur : List (List Int)}, (cur ≠ [] ∨ ∃ p ∈ ps, W (ixK K p) ≠ []) → ps.foldl (viaW W K own) cur ≠ []
  | [], cur, h => by
    rcases h with h | ⟨p, hp, _⟩
    · exact h
    · cases hp
  | p :: r, cur, h => by
    rw [List.foldl_cons]
    refine bestW_some ?_
    rcases h with h | ⟨q, hq, hw⟩
    · exact .inl (viaW_ne (.inl h))
    · rcases List.mem_cons.1 hq with rfl | hq
      · exact .inl (viaW_ne (.inr hw))
      · exact .inr ⟨q, hq, hw⟩
theorem AncOf.first {b : PBk} {k x : List Int} (h : AncOf b k x) : x = k ∨ ∃ p ∈ parsB b k, AncOf b p x := by
  induction h with
  | self => exact .inl rfl
  | @up y p hy hp ih =>
    rcases ih with rfl | ⟨q, hq, hqy⟩
    · exact .inr ⟨p, hp, .self⟩
    · exact .inr ⟨q, hq, .up hqy hp⟩
theorem way_ne {b : PBk} (hv : validB b) {a : List Int} (ha : a ∈ keysB b) : ∀ (N : Nat) (k : List Int), k ∈ keysB b → ixK (keysB b) k < N → (waysW b a b.cms.length (ixK (keysB b) k) ≠ [] ↔ AncOf b k a) := by
  intro N
  induction N with
  | zero => intro k _ h; omega
  | succ N ih =>
    intro k hk hN
    have hkl := ixK_lt hk
    rw [keysB_len] at hkl
    have hkg := ixK_get hk
    by_cases hs : ixK (keysB b) k = ixK (keysB b) a
    · have hka : k = a := by
        have := ixK_get ha
        rw [← hs, hkg] at this
        exact Option.some.inj this
      rw [hs, waysW_start]
      exact ⟨fun _ => hka ▸ .self, fun _ => by simp⟩
    · have hkeep : waysW b a b.cms.length (ixK (keysB b) k) = bestW (waysW b a (ixK (keysB b) k)) (keysB b) (ckey (comAt b (ixK (keysB b) k))) (comAt b (ixK (keysB b) k)).ps := by
        rw [waysW_keep b a (n := ixK (keysB b) k + 1) (by omega) (by omega)]
        show (if ixK (keysB b) k = ixK (keysB b) a then _ else _ : Nat → List (List Int)) _ = _
        rw [if_neg hs]
        unfold setW
        rw [if_pos rfl]
      have hps : (comAt b (ixK (keysB b) k)).ps = parsB b k := rfl
      rw [hkeep, hps]
      have hpar : ∀ p ∈ parsB b k, (waysW b a (ixK (keysB b) k) (ixK (keysB b) p) ≠ [] ↔ AncOf b p a) := fun p hp => by
        have hpm := pars_mem hv hk hp
        have e := waysW_keep b a (n := ixK (keysB b) k) (m := b.cms.length) hpm.2 (by omega)
        rw [← e]
        exact ih p hpm.1 (by omega)
      constructor
      · intro hne
        rcases Classical.em (∃ p ∈ parsB b k, AncOf b p a) with ⟨p, hp, hpa⟩ | hno
        · exact AncOf.trans (.up .self hp) hpa
        · exact absurd (bestW_none fun p hp => Decidable.byContradiction fun hh => hno ⟨p, hp, (hpar p hp).1 hh⟩) hne
      · intro hanc
        rcases hanc.first with h | ⟨p, hp, hpa⟩
        · exact absurd (congrArg (ixK (keysB b)) h.symm) hs
        · exact bestW_some (.inr ⟨p, hp, (hpar p hp).2 hpa⟩)
def wayB (b : PBk) (a k : List Int) : List (List Int) := waysW b a b.cms.length (ixK (keysB b) k)
theorem wayB_ne {b : PBk} (hv : validB b) {a k : List Int} (ha : a ∈ keysB b) (hk : k ∈ keysB b) : wayB b a k ≠ [] ↔ a ∈ ancB b k := by
  rw [ancB_mem hv hk]
  exact way_ne hv ha (ixK (keysB b) k + 1) k hk (by omega)
def wayAns (b : PBk) (a k : List Int) : List (List Int) × Int := if openCode b [a, k] = 0 then (if a ∈ ancB b k then (wayB b a k, 0) else ([], 4)) else ([], openCode b [a, k])
theorem bestW_len {W : Nat → List (List Int)} {K : List (List Int)} {own : List Int} {N : Nat} (hW : ∀ j, (W j).length ≤ N) : ∀ {ps cur : List (List Int)}, cur.length ≤ N + 1 → (ps.foldl (viaW W K own) cur).length ≤ N + 1
  | [], _, h => h
  | p :: r, cur, h => by
    rw [List.foldl_cons]
    refine bestW_len hW ?_
    unfold viaW
    split
    · exact h
    · split
      · have := hW (ixK K p)
        rw [List.length_append, List.length_singleton]
        omega
      · exact h
theorem waysW_len (b : PBk) (a : List Int) : ∀ n j, (waysW b a n j).length ≤ n + 1
  | 0, j => by rw [waysW_zero]; split <;> simp
  | n + 1, j => by
    have ih := waysW_len b a n
    unfold waysW
    split
    · have := ih j; omega
    · unfold setW
      split
      · exact bestW_len ih (by simp)
      · have := ih j; omega
end Go.Proofs.YtkifkdkjljcclaaGreat

namespace Go.Proofs.YtkifkdkjljcclaaGreat
open Go.Sx Go.RowKit

theorem cmpKs_drop {x y : List (List Int)} {j : Nat} (hj : j < x.length) (hl : x.length = y.length) : cmpKs (x.drop j) (y.drop j) = if cmpL (x.getD j []) (y.getD j []) ≠ 0 then cmpL (x.getD j []) (y.getD j []) else cmpKs (x.drop (j + 1)) (y.drop (j + 1)) := by
  rw [List.drop_eq_getElem_cons hj, List.drop_eq_getElem_cons (show j < y.length by omega)]
  have e1 : x.getD j [] = x[j] := by simp [List.getD, hj]
  have e2 : y.getD j [] = y[j] := by simp [List.getD, show j < y.length by omega]
  rw [e1, e2]
  rfl
theorem c_CompareFuncKs {w : World} {s t : Sl} {x y : List (List Int)} (hs : KsR w s x) (ht : KsR w t y) (hl : x.length = y.length) (hmax : x.length ≤ 1073741824) :
    Ret Tryz.prog n_slices_CompareFunc_sl_impl_Key_sl_impl_Key_impl_Key_impl_Key [.slice s.a s.n s.c, .slice t.a t.n t.c, .func (.func n_impl_compareKeys) #[] #[]] w [.int .i64] (fun r _ => r = cmpKs x y) := slices_CompareFunc_sl_impl_Key_sl_impl_Key_impl_Key_impl_Key_calls _ _ _ (by
  unfold slices_CompareFunc_sl_impl_Key_sl_impl_Key_impl_Key_impl_Key
  have hsn := hs.n
  have htn := ht.n
  refine r_loop (σ := Int) (fun st w' => ∃ j : Nat, st = j ∧ j ≤ x.length ∧ cmpKs x y = cmpKs (x.drop j) (y.drop j) ∧ At w w' []) (fun st _ => (s.n - st).toNat) 0 rfl ⟨0, rfl, by omega, by simp, At.refl w⟩ ?_
  rintro i w1 ⟨j, rfl, hj, he, h⟩
  refine r_any fun _ => ?_
  dsimp only
  refine r_if ((j : Int) < (s.n : Int)) rfl (fun hlt => ?_) (fun hge => ?_)
  · obtain ⟨k, q, hk, hkm, hq, hko, hkl⟩ := (hs.at h).get (i := j) (by omega)
    obtain ⟨k2, q2, hk2, hkm2, hq2, hko2, hkl2⟩ := (ht.at h).get (i := j) (by omega)
    refine r_ix q hq (by omega) (by omega) ?_
    simp only [Int.toNat_natCast]
    refine r_ldN (u8s k).toArray hkl ?_
    refine r_new h fun b8 w2 h => ?_
    refine r_stA h 0 rfl rfl (by simp [hko.1]) (by simp [Value.cells]) (by simpa using u8s_one) fun w3 h => ?_
    refine r_if ((j : Int) ≥ (t.n : Int)) rfl (fun hh => by omega) (fun _ => ?_)
    obtain ⟨k2', q2', hk2', _, hq2', _, hkl2'⟩ := (ht.at h).get (i := j) (by omega)
    rw [hk2] at hk2'
    cases hk2'
    refine r_ix q2' hq2' (by omega) (by omega) ?_
    simp only [Int.toNat_natCast]
    refine r_ldN (u8s k2).toArray hkl2' ?_
    refine r_new h fun b9 w4 h => ?_
    refine r_stA h 0 rfl rfl (by simp [hko2.1]) (by simp [Value.cells]) (by simpa using u8s_one) fun w5 h => ?_
    have h : At w w5 [(b9, (u8s k2).toArray, ty_impl_Key), (b8, (u8s k).toArray, ty_impl_Key)] := h
    refine r_ldA h 1 rfl rfl (by simp [hko.1]) ?_
    refine r_ldA h 0 rfl rfl (by simp [hko2.1]) ?_
    refine r_callV h go_compareKeys (c_compareKeys hko.1 hko2.1 _) fun r w6 h _ hr => ?_
    subst hr
    have hd := cmpKs_drop (y := y) (show j < x.length by omega) hl
    have e1 : x.getD j [] = k := by simp [List.getD, hk]
    have e2 : y.getD j [] = k2 := by simp [List.getD, hk2]
    rw [e1, e2] at hd
    refine r_ne (fun hne => ?_) (fun heq => ?_)
    · rw [if_pos hne] at hd
      exact r_ret h.nil _ rfl (by rw [he, hd])
    · rw [if_neg (by simpa using heq)] at hd
      exact ⟨((j + 1 : Nat) : Int), by rw [w64 (by omega) (by omega)]; rfl, ⟨j + 1, rfl, by omega, by rw [he, hd], h.nil⟩, by omega⟩
  · refine r_if ((s.n : Int) < (t.n : Int)) rfl (fun hh => by omega) (fun _ => ?_)
    have e : cmpKs x y = 0 := by
      rw [he, List.drop_eq_nil_of_le (by omega)]
      unfold cmpKs
      rfl
    exact r_ret h.nil 0 rfl e.symm)
theorem r_sooner {R : Value → World → Prop} {w0 w : World} {ls : List Blk} {x y : List (List Int)} {s t : Sl} (hA : At w0 w ls) (hs : KsR w s x) (ht : KsR w t y) (hmax : x.length ≤ 1073741824) {A B : World → Prop}
    (h1 : ∀ w', At w0 w' ls → Below w.heap.size w w' → (y = [] ∨ sooner x y = true) → A w') (h2 : ∀ w', At w0 w' ls → Below w.heap.size w w' → ¬ (y = [] ∨ sooner x y = true) → B w') :
    (cond (!decide (y ≠ [])) A (cond (decide ((s.n : Int) < (t.n : Int))) A (cond ((s.n : Int) == (t.n : Int)) ((real Tryz.prog R).call n_slices_CompareFunc_sl_impl_Key_sl_impl_Key_impl_Key_impl_Key [(.slice s.a s.n s.c), (.slice t.a t.n t.c), (.func (.func n_impl_compareKeys) #[] #[])] [(.int .i64)] fun r => cond (decide (r < 0)) A B) B)) : World → Prop) w := by
  have hsn := hs.n
  have htn := ht.n
  by_cases hy : y = []
  · refine r_true (by simp [hy]) ?_
    exact h1 w hA (Below.refl _ _) (.inl hy)
  refine r_false (by simp [hy]) ?_
  refine r_if ((s.n : Int) < (t.n : Int)) rfl (fun hlt => ?_) (fun hge => ?_)
  · refine h1 w hA (Below.refl _ _) (.inr ?_)
    unfold sooner
    rw [if_pos (by omega)]
    exact decide_eq_true (by omega)
  refine r_eq (fun heq => ?_) (fun hne => ?_)
  · have hl : x.length = y.length := by omega
    have hso : sooner x y = decide (cmpKs x y < 0) := by unfold sooner; rw [if_neg (by simpa using hl)]
    refine r_call hA (c_CompareFuncKs hs ht hl hmax) fun r w1 h1' hb hr => ?_
    subst hr
    refine r_if (cmpKs x y < 0) rfl (fun hlt => ?_) (fun hge2 => ?_)
    · exact h1 w1 h1' hb (.inr (by rw [hso]; exact decide_eq_true hlt))
    · refine h2 w1 h1' hb ?_
      rw [hso]
      simp [hy]
      omega
  · refine h2 w hA (Below.refl _ _) ?_
    have : sooner x y = false := by
      unfold sooner
      rw [if_pos (by omega)]
      exact decide_eq_false (by omega)
    rw [this]
    simp [hy]

theorem setW_set (W : Nat → List (List Int)) (n : Nat) (x y : List (List Int)) : setW (setW W n x) n y = setW W n y := by
  funext j
  unfold setW
  split <;> rfl
theorem setW_none {W : Nat → List (List Int)} {n : Nat} (h : W n = []) : setW W n [] = W := by
  funext j
  unfold setW
  split
  · rename_i hj; rw [hj, h]
  · rfl
def curW (b : PBk) (a : List Int) (i j : Nat) : List (List Int) := ((comAt b i).ps.take j).foldl (viaW (waysW b a i) (keysB b) (ckey (comAt b i))) []
def wayW (b : PBk) (a : List Int) (i j : Nat) : Nat → List (List Int) := if i = ixK (keysB b) a then waysW b a i else setW (waysW b a i) i (curW b a i j)
theorem wayW_zero (b : PBk) (a : List Int) (i : Nat) : wayW b a i 0 = waysW b a i := by
  unfold wayW
  split
  · rfl
  · rename_i h
    exact setW_none (waysW_later b a (Nat.le_refl i) h)
theorem wayW_last (b : PBk) (a : List Int) (i : Nat) : wayW b a i (comAt b i).ps.length = waysW b a (i + 1) := by
  unfold wayW curW
  rw [List.take_of_length_le (Nat.le_refl _)]
  rfl
theorem curW_succ {b : PBk} {a : List Int} {i j : Nat} {p : List Int} (hp : (comAt b i).ps[j]? = some p) : curW b a i (j + 1) = viaW (waysW b a i) (keysB b) (ckey (comAt b i)) (curW b a i j) p := by
  unfold curW
  rw [take_succ_get hp, List.foldl_append]
  rfl
theorem wayW_succ {b : PBk} {a : List Int} {i j : Nat} {p : List Int} (hp : (comAt b i).ps[j]? = some p) (hne : i ≠ ixK (keysB b) a) : wayW b a i (j + 1) = setW (wayW b a i j) i (viaW (waysW b a i) (keysB b) (ckey (comAt b i)) (curW b a i j) p) := by
  unfold wayW
  rw [if_neg hne, if_neg hne, curW_succ hp, setW_set]
theorem wayW_own {b : PBk} {a : List Int} {i j : Nat} (hne : i ≠ ixK (keysB b) a) : wayW b a i j i = curW b a i j := by
  unfold wayW setW
  rw [if_neg hne, if_pos rfl]
theorem wayW_other {b : PBk} {a : List Int} {i j n : Nat} (h : n ≠ i) : wayW b a i j n = waysW b a i n := by
  unfold wayW
  split
  · rfl
  · unfold setW
    rw [if_neg h]
def WaysM (K : List (List Int)) (W : Nat → List (List Int)) (m : List (List Int × Value)) (LW : List Blk) : Prop :=
  ∀ k ∈ K, (m.lookup k = none ∧ W (ixK K k) = []) ∨ ∃ s L, m.lookup k = some (.slice s.a s.n s.c) ∧ W (ixK K k) ≠ [] ∧ OwnKeyS s (W (ixK K k)) L ∧ L.Sublist LW
theorem ixK_inj {K : List (List Int)} {a k : List Int} (ha : a ∈ K) (hk : k ∈ K) (h : ixK K a = ixK K k) : a = k := by
  have h1 := ixK_get ha
  have h2 := ixK_get hk
  rw [h, h2] at h1
  exact (Option.some.inj h1).symm
theorem WaysM.put {K : List (List Int)} {W : Nat → List (List Int)} {m m' : List (List Int × Value)} {LW Ls : List Blk} {own : List Int} {x : List (List Int)} {s : Sl} (h : WaysM K W m LW) (ho : own ∈ K) (hs : OwnKeyS s x Ls) (hx : x ≠ []) (hm : ∀ k', m'.lookup k' = if k' = own then some (.slice s.a s.n s.c) else m.lookup k') : WaysM K (setW W (ixK K own) x) m' (Ls ++ LW) := by
  intro k hk
  rw [hm]
  by_cases hko : k = own
  · subst hko
    rw [if_pos rfl]
    have e : setW W (ixK K k) x (ixK K k) = x := by unfold setW; rw [if_pos rfl]
    rw [e]
    exact .inr ⟨s, Ls, rfl, hx, hs, List.sublist_append_left _ _⟩
  · rw [if_neg hko]
    have e : setW W (ixK K own) x (ixK K k) = W (ixK K k) := by unfold setW; rw [if_neg (fun hh => hko (ixK_inj hk ho hh))]
    rw [e]
    rcases h k hk with h1 | ⟨s', L, h1, h2, h3, h4⟩
    · exact .inl h1
    · exact .inr ⟨s', L, h1, h2, h3, h4.trans (List.sublist_append_right _ _)⟩
theorem WaysM.start {b : PBk} {a : List Int} (ha : a ∈ keysB b) {m' : List (List Int × Value)} {s : Sl} {Ls : List Blk} (hs : OwnKeyS s [a] Ls) (hm : ∀ k', m'.lookup k' = if k' = a then some (.slice s.a s.n s.c) else none) : WaysM (keysB b) (waysW b a 0) m' Ls := by
  intro k hk
  rw [hm]
  by_cases hka : k = a
  · subst hka
    rw [if_pos rfl, waysW_start]
    exact .inr ⟨s, Ls, rfl, by simp, hs, List.Sublist.refl _⟩
  · rw [if_neg hka]
    exact .inl ⟨rfl, by rw [waysW_zero, if_neg (fun hh => hka (ixK_inj hk ha hh))]⟩
theorem ut_mapS : (Tryz.prog).underlying ty_map_impl_Key_sl_impl_Key = some (.map ty_impl_Key ty_sl_impl_Key) := by kernel_rfl
theorem zero_SK : ((Tryz.prog).info? ty_sl_impl_Key).bind (·.zero) = some (.slice none 0 0) := by kernel_rfl
theorem look_way {K : List (List Int)} {W : Nat → List (List Int)} {m : List (List Int × Value)} {LW : List Blk} {w : World} {r : Nat} {o : Obj} (hW : WaysM K W m LW) (hM : w.heap[r]? = some o) (hm : MapIs o m) (hmn : ∀ p ∈ m, p.1.length = 32) {k : List Int} (hk : k ∈ K) (hko : keyOk k) :
    ∃ s L, OwnKeyS s (W (ixK K k)) L ∧ L.Sublist LW ∧ ∀ c, (Instr.lookup ty_map_impl_Key_sl_impl_Key (.map (some r)) (.agg (u8s k).toArray) c).run Tryz.prog w = .ok (if c then .tuple #[.slice s.a s.n s.c, .bool (decide (W (ixK K k) ≠ []))] else .slice s.a s.n s.c) w := by
  have hlook := fun c => run_lookup_u8 (w := w) ut_mapS ut_Key tyOf_byte zero_SK hko.1 hM hm hmn c
  rcases hW k hk with ⟨h1, h2⟩ | ⟨s, L, h1, h2, h3, h4⟩
  · refine ⟨⟨none, 0, 0⟩, [], by rw [h2]; exact OwnKeyS.none, List.nil_sublist _, fun c => ?_⟩
    have := hlook c
    rw [h1] at this
    rw [h2, decide_eq_false (by simp)]
    exact this
  · refine ⟨s, L, h3, h4, fun c => ?_⟩
    have := hlook c
    rw [h1] at this
    rw [decide_eq_true h2]
    exact this
theorem OwnKeyS.n {s : Sl} {ks : List (List Int)} {L : List Blk} (h : OwnKeyS s ks L) : s.n = ks.length := by
  have := h.1.1
  rw [flatMap_length (z := 32) (fun x hx => by rw [u8s_len]; exact (h.2 x hx).1)] at this
  omega
theorem wayW_same {b : PBk} {a : List Int} {i j : Nat} {p : List Int} (hp : (comAt b i).ps[j]? = some p) (h : waysW b a i (ixK (keysB b) p) = []) : wayW b a i (j + 1) = wayW b a i j := by
  unfold wayW
  rw [curW_succ hp, viaW_same _ _ _ _ h]
theorem wayW_at {b : PBk} {a : List Int} {i j : Nat} (h : i = ixK (keysB b) a) : wayW b a i j = waysW b a i := if_pos h
theorem OwnKeyS.ks {w0 w : World} {ls L : List Blk} {s : Sl} {ks : List (List Int)} (h : OwnKeyS s ks L) (hA : At w0 w ls) (hs : L.Sublist ls) : KsR w s ks := ownS_ks h.1 hA hs h.2
end Go.Proofs.YtkifkdkjljcclaaGreat
