/- History: the shortest ways: plain; a key is laid into an own map, new or not. -/
import Derived.Test.YtaadgdbegpmlmaaGreatPkLWT32
namespace Go.Sx
open Go.RowKit (Below)
variable {P : Program} {R : Value → World → Prop} {w0 w : World} {ls : List Blk}

theorem lookup_snoc {m : List (List Int × Value)} {k : List Int} {v : Value} (h : m.lookup k = none) (k' : List Int) : (m ++ [(k, v)]).lookup k' = if k' = k then some v else m.lookup k' := by
  induction m with
  | nil =>
    by_cases hk : k' = k
    · subst hk; simp
    · have hb : (k' == k) = false := beq_eq_false_iff_ne.2 hk
      rw [if_neg hk]
      show (match (k' == k) with | true => some v | false => none) = none
      rw [hb]
  | cons p m ih =>
    obtain ⟨a, u⟩ := p
    have e : ∀ (m : List (List Int × Value)) (k : List Int), ((a, u) :: m).lookup k = if k = a then some u else m.lookup k := fun m k => by
      by_cases hk : k = a
      · subst hk; simp
      · have hb : (k == a) = false := beq_eq_false_iff_ne.2 hk
        rw [if_neg hk]
        show (match (k == a) with | true => some u | false => m.lookup k) = _
        rw [hb]
    rw [e] at h
    split at h
    · cases h
    · rename_i hka
      rw [List.cons_append, e, e, ih h]
      by_cases h1 : k' = a
      · have : k' ≠ k := fun hh => hka (hh ▸ h1)
        rw [if_pos h1, if_neg this, if_pos h1]
      · rw [if_neg h1, if_neg h1]
theorem sameBits_arr (k : List Int) : Instr.sameBits 10000 (arrK k) (arrK k) = true := by
  show Instr.sameBits (9999 + 1) (arrK k) (arrK k) = true
  unfold arrK
  simp only [Instr.sameBits, beq_self_eq_true, Bool.true_and, List.all_eq_true]
  intro p hp
  obtain ⟨i, hi, e⟩ := List.getElem_of_mem hp
  rw [List.getElem_zip] at e
  rw [← e]
  simp [Instr.sameBits]
theorem run_keyStays (k : List Int) (w : World) : (Instr.keyThatStays (arrK k) (arrK k)).run P w = .ok (arrK k) w := by simp [Instr.keyThatStays, sameBits_arr]

/-- A key that is there is found at its place; a value is laid there. -/
theorem run_findAt_u8 {t e n : Nat} (hu : P.underlying t = some (.array n e)) (he : tyOf P e = some (.int .u8, 1)) {k : List Int} (hk : k.length = n) (w : World) : ∀ (m : List (List Int × Value)) (es : List MapEntry) (i : Nat) (v0 : Value), es.map (fun e => (e.key, e.val)) = m.map (fun p => (arrK p.1, p.2)) → (∀ p ∈ m, p.1.length = n) → m.lookup k = some v0 →
    ∃ j, (Instr.findAsking t (arrK k) es i).run P w = .ok (some (i + j, v0)) w ∧ (es[j]?).map (·.key) = some (arrK k) ∧ ∀ v : Value, ∃ m' : List (List Int × Value), (es.modify j fun e => { e with key := arrK k, val := v }).map (fun e => (e.key, e.val)) = m'.map (fun p => (arrK p.1, p.2)) ∧ (∀ p ∈ m', p.1.length = n) ∧ ∀ k', m'.lookup k' = if k' = k then some v else m.lookup k'
  | [], es, i, v0, h, _, hl => by cases hl
  | (a, v) :: m, [], i, v0, h, _, hl => by simp at h
  | (a, v1) :: m, x :: es, i, v0, h, hn, hl => by
    simp only [List.map_cons, List.cons.injEq, Prod.mk.injEq] at h
    obtain ⟨⟨h1, h2⟩, h3⟩ := h
    have he1 := run_equal_u8 hu he hk (hn (a, v1) (by simp)) w
    have e : ∀ (u : Value) (m : List (List Int × Value)) (k : List Int), ((a, u) :: m).lookup k = if k = a then some u else m.lookup k := fun u m k => by
      by_cases hk : k = a
      · subst hk; simp
      · have hb : (k == a) = false := beq_eq_false_iff_ne.2 hk
        rw [if_neg hk]
        show (match (k == a) with | true => some u | false => m.lookup k) = _
        rw [hb]
    by_cases hka : k = a
    · subst hka
      rw [e, if_pos rfl] at hl
      cases hl
      refine ⟨0, by simp [Instr.findAsking, h1, h2, he1], by simp [h1], fun v => ⟨(k, v) :: m, by simp [h3], ?_, fun k' => ?_⟩⟩
      · intro p hp
        rcases List.mem_cons.1 hp with rfl | hp
        · exact hk
        · exact hn p (by simp [hp])
      · rw [e, e]
        split <;> rfl
    · rw [e, if_neg hka] at hl
      obtain ⟨j, hj, hkey, hm⟩ := run_findAt_u8 hu he hk w m es (i + 1) v0 h3 (fun p hp => hn p (by simp [hp])) hl
      refine ⟨j + 1, by simp [Instr.findAsking, h1, he1, hka, hj]; omega, by simpa using hkey, fun v => ?_⟩
      obtain ⟨m', hm1, hm2, hm3⟩ := hm v
      refine ⟨(a, v1) :: m', by simp [h1, h2, hm1], ?_, fun k' => ?_⟩
      · intro p hp
        rcases List.mem_cons.1 hp with rfl | hp
        · exact hn (a, v1) (by simp)
        · exact hm2 p hp
      · rw [e, e, hm3]
        by_cases h4 : k' = a
        · have : k' ≠ k := fun hh => hka (hh.symm.trans h4)
          rw [if_pos h4, if_neg this, if_pos h4]
        · rw [if_neg h4, if_neg h4]

theorem r_mapPut {t kt et e n : TypeId} (ht : P.underlying t = some (.map kt et)) (hu : P.underlying kt = some (.array n e)) (he : tyOf P e = some (.int .u8, 1)) {k : List Int} (hk : k.length = n) {r : Nat} {o : Obj} {m : List (List Int × Value)} {v : Value} {s : World → Prop} (hA : At w0 w ls) (hM : w.heap[r]? = some o) (hm : MapIs o m) (hr : w0.heap.size ≤ r) (hmn : ∀ p ∈ m, p.1.length = n)
    (h : ∀ w' o' m', At w0 w' ls → w'.heap[r]? = some o' → MapIs o' m' → (∀ p ∈ m', p.1.length = n) → (∀ k', m'.lookup k' = if k' = k then some v else m.lookup k') → s w') : ((real P R).eff (Instr.mapUpdate t (.map (some r)) (arrK k) v) s : World → Prop) w := by
  cases hl : m.lookup k with
  | none =>
    refine r_mapNew ht hu he hk hA hM hm hr hmn hl fun w' o' hA' hM' hm' => h w' o' _ hA' hM' hm' ?_ (lookup_snoc hl)
    intro p hp
    rcases List.mem_append.1 hp with hp | hp
    · exact hmn p hp
    · rw [List.mem_singleton.1 hp]; exact hk
  | some v0 =>
    have hno := hm.no
    obtain ⟨es, clk, rfl, hes⟩ := hm
    obtain ⟨j, hj, hkey, hset⟩ := run_findAt_u8 hu he hk w m es.toList 0 v0 hes hmn hl
    obtain ⟨m', h1, h2, h3⟩ := hset v
    rw [Nat.zero_add] at hj
    have hc : (Instr.checkKey false 10000 kt (arrK k)).run P w = .ok () w := run_checkKey_u8 hu he hk _ 9998 w
    have hg : (getObj r).run P w = .ok (.map es clk) w := by simp [getObj, Sem.run, hM]
    have hkey' : ((es[j]?).map (·.key)).getD (arrK k) = arrK k := by
      rw [Array.getElem?_toList] at hkey
      rw [hkey]
      rfl
    have hs : (setObj r (.map (es.modify j fun e => { e with key := arrK k, val := v }) clk)).run P w = .ok () { w with heap := w.heap.setIfInBounds r (.map (es.modify j fun e => { e with key := arrK k, val := v }) clk) } := by simp [setObj, Sem.run, hM]
    refine ⟨_, ?_, h _ (.map (es.modify j fun e => { e with key := arrK k, val := v }) clk) m' (hA.putMap (o' := .map (es.modify j fun e => { e with key := arrK k, val := v }) clk) hM hno hr) ?_ ⟨_, _, rfl, ?_⟩ h2 h3⟩
    · simp [Instr.mapUpdate, run_underlying ht, hg, hc, run_findKey_eq w (wide_arr hu), hj, hkey', run_keyStays, hs]
    · show (w.heap.setIfInBounds r _)[r]? = _
      rw [Array.getElem?_setIfInBounds_self_of_lt (lt_of_get hM)]
    · rw [Array.toList_modify]
      exact h1
end Go.Sx
namespace Go.Proofs.YtaadgdbegpmlmaaGreat
open Go.Sx Go.RowKit

def cmpKs : List (List Int) → List (List Int) → Int
  | a :: r, b :: s => if cmpL a b ≠ 0 then cmpL a b else cmpKs r s
  | _, _ => 0
/-- Which of two ways comes first: the shorter one, then key by key. -/
def sooner (x y : List (List Int)) : Bool := if x.length ≠ y.length then decide (x.length < y.length) else decide (cmpKs x y < 0)
def viaW (W : Nat → List (List Int)) (K : List (List Int)) (own : List Int) (cur : List (List Int)) (p : List Int) : List (List Int) :=
  if W (ixK K p) = [] then cur else if cur = [] ∨ sooner (W (ixK K p) ++ [own]) cur = true then W (ixK K p) ++ [own] else cur
def bestW (W : Nat → List (List Int)) (K : List (List Int)) (own : List Int) (ps : List (List Int)) : List (List Int) := ps.foldl (viaW W K own) []
def setW (W : Nat → List (List Int)) (n : Nat) (x : List (List Int)) : Nat → List (List Int) := fun j => if j = n then x else W j
/-- The best ways from a to the commits, when the first n commits have been looked at. -/
def waysW (b : PBk) (a : List Int) : Nat → Nat → List (List Int)
  | 0 => fun j => if j = ixK (keysB b) a then [a] else []
  | n + 1 => if n = ixK (keysB b) a then waysW b a n else setW (waysW b a n) n (bestW (waysW b a n) (keysB b) (ckey (comAt b n)) (comAt b n).ps)
theorem waysW_zero (b : PBk) (a : List Int) (j : Nat) : waysW b a 0 j = if j = ixK (keysB b) a then [a] else [] := rfl
theorem waysW_start (b : PBk) (a : List Int) (n : Nat) : waysW b a n (ixK (keysB b) a) = [a] := by
  induction n with
  | zero => rw [waysW_zero, if_pos rfl]
  | succ n ih =>
    unfold waysW
    split
    · exact ih
    · rename_i hn
      unfold setW
      rw [if_neg (fun hh => hn hh.symm)]
      exact ih
theorem waysW_later (b : PBk) (a : List Int) {n j : Nat} (h : n ≤ j) (hj : j ≠ ixK (keysB b) a) : waysW b a n j = [] := by
  induction n with
  | zero => rw [waysW_zero, if_neg hj]
  | succ n ih =>
    unfold waysW
    split
    · exact ih (by omega)
    · unfold setW
      rw [if_neg (by omega)]
      exact ih (by omega)
theorem waysW_keep (b : PBk) (a : List Int) {n m j : Nat} (h : j < n) (hm : n ≤ m) : waysW b a m j = waysW b a n j := by
  induction m with
  | zero => omega
  | succ m ih =>
    rcases Nat.lt_or_ge n (m + 1) with h1 | h1
    · show (if m = ixK (keysB b) a then waysW b a m else setW (waysW b a m) m (bestW (waysW b a m) (keysB b) (ckey (comAt b m)) (comAt b m).ps)) j = _
      split
      · exact ih (by omega)
      · unfold setW
        rw [if_neg (by omega)]
        exact ih (by omega)
    · have : n = m + 1 := by omega
      rw [this]
theorem viaW_same (W : Nat → List (List Int)) (K : List (List Int)) (own : List Int) (cur : List (List Int)) {p : List Int} (h : W (ixK K p) = []) : viaW W K own cur p = cur := if_pos h
theorem bestW_none {W : Nat → List (List Int)} {K : List (List Int)} {own : List Int} {ps : List (List Int)} (h : ∀ p ∈ ps, W (ixK K p) = []) : bestW W K own ps = [] := by
  unfold bestW
  have : ∀ (ps cur : List (List Int)), (∀ p ∈ ps, W (ixK K p) = []) → ps.foldl (viaW W K own) cur = cur := by
    intro ps
    induction ps with
    | nil => intro cur _; rfl
    | cons p r ih =>
      intro cur h
      rw [List.foldl_cons, viaW_same W K own cur (h p (by simp))]
      exact ih cur fun q hq => h q (by simp [hq])
  exact this ps [] h
theorem viaW_ne {W : Nat → List (List Int)} {K : List (List Int)} {own : List Int} {cur : List (List Int)} {p : List Int} (h : cur ≠ [] ∨ W (ixK K p) ≠ []) : viaW W K own cur p ≠ [] := by
  unfold viaW
  split
  · rename_i h1
    rcases h with h | h
    · exact h
    · exact absurd h1 h
  · split
    · simp
    · rename_i h2
      intro hh
      exact h2 (.inl hh)
theorem bestW_some {W : Nat → List (List Int)} {K : List (List Int)} {own : List Int} : ∀ {ps cur : List (List Int)}, (cur ≠ [] ∨ ∃ p ∈ ps, W (ixK K p) ≠ []) → ps.foldl (viaW W K own) cur ≠ []
  | [], cur, h => by
    rcases h with h | ⟨p, hp, _⟩
    · exact h
    · cases hp
  | p :: r, cur, h => by
    rw [List.foldl_cons]
    refine bestW_some ?_
    rcases h with h | ⟨q, hq, hw⟩
    · exact .inl (viaW_ne (.inl h))
    · rcases List.mem_cons.1 hq with rfl | hq
      · exact .inl (viaW_ne (.inr hw))
      · exact .inr ⟨q, hq, hw⟩
/-- Before the start there are no ways. -/
theorem waysW_before {b : PBk} (hv : validB b) {a : List Int} (ha : a ∈ keysB b) : ∀ n, n ≤ ixK (keysB b) a + 1 → ∀ j, waysW b a n j = waysW b a 0 j := by
  intro n
  induction n with
  | zero => intro _ j; rfl
  | succ n ih =>
    intro hn j
    have ih := ih (by omega)
    show (if n = ixK (keysB b) a then waysW b a n else setW (waysW b a n) n (bestW (waysW b a n) (keysB b) (ckey (comAt b n)) (comAt b n).ps)) j = _
    split
    · exact ih j
    · rename_i hne
      unfold setW
      split
      · rename_i hj
        subst hj
        rw [waysW_zero, if_neg hne]
        refine bestW_none fun p hp => ?_
        have hl := ixK_lt ha
        rw [keysB_len] at hl
        have hg := (hv.2 j (by omega)).2.2.2.1 p hp
        have hpl : ixK (keysB b) p < j := by
          have h1 := ixK_lt hg
          rw [List.length_take] at h1
          have h2 := ixK_append (r := (keysC b.cms).drop j) hg
          rw [List.take_append_drop] at h2
          show ixK (keysC b.cms) p < j
          rw [h2]
          omega
        rw [ih, waysW_zero, if_neg (by omega)]
      · exact ih j

/-- Ways lead just to those of which the first is an ancestor. -/
theorem AncOf.first {b : PBk} {k x : List Int} (h : AncOf b k x) : x = k ∨ ∃ p ∈ parsB b k, AncOf b p x := by
  induction h with
  | self => exact .inl rfl
  | @up y p hy hp ih =>
    rcases ih with rfl | ⟨q, hq, hqy⟩
    · exact .inr ⟨p, hp, .self⟩
    · exact .inr ⟨q, hq, .up hqy hp⟩
theorem way_ne {b : PBk} (hv : validB b) {a : List Int} (ha : a ∈ keysB b) : ∀ (N : Nat) (k : List Int), k ∈ keysB b → ixK (keysB b) k < N → (waysW b a b.cms.length (ixK (keysB b) k) ≠ [] ↔ AncOf b k a) := by
  intro N
  induction N with
  | zero => intro k _ h; omega
  | succ N ih =>
    intro k hk hN
    have hkl := ixK_lt hk
    rw [keysB_len] at hkl
    have hkg := ixK_get hk
    by_cases hs : ixK (keysB b) k = ixK (keysB b) a
    · have hka : k = a := by
        have := ixK_get ha
        rw [← hs, hkg] at this
        exact Option.some.inj this
      rw [hs, waysW_start]
      exact ⟨fun _ => hka ▸ .self, fun _ => by simp⟩
    · have hkeep : waysW b a b.cms.length (ixK (keysB b) k) = bestW (waysW b a (ixK (keysB b) k)) (keysB b) (ckey (comAt b (ixK (keysB b) k))) (comAt b (ixK (keysB b) k)).ps := by
        rw [waysW_keep b a (n := ixK (keysB b) k + 1) (by omega) (by omega)]
        show (if ixK (keysB b) k = ixK (keysB b) a then _ else _ : Nat → List (List Int)) _ = _
        rw [if_neg hs]
        unfold setW
        rw [if_pos rfl]
      have hps : (comAt b (ixK (keysB b) k)).ps = parsB b k := rfl
      rw [hkeep, hps]
      have hpar : ∀ p ∈ parsB b k, (waysW b a (ixK (keysB b) k) (ixK (keysB b) p) ≠ [] ↔ AncOf b p a) := fun p hp => by
        have hpm := pars_mem hv hk hp
        have e := waysW_keep b a (n := ixK (keysB b) k) (m := b.cms.length) hpm.2 (by omega)
        rw [← e]
        exact ih p hpm.1 (by omega)
      constructor
      · intro hne
        rcases Classical.em (∃ p ∈ parsB b k, AncOf b p a) with ⟨p, hp, hpa⟩ | hno
        · exact AncOf.trans (.up .self hp) hpa
        · exact absurd (bestW_none fun p hp => Decidable.byContradiction fun hh => hno ⟨p, hp, (hpar p hp).1 hh⟩) hne
      · intro hanc
        rcases hanc.first with h | ⟨p, hp, hpa⟩
        · exact absurd (congrArg (ixK (keysB b)) h.symm) hs
        · exact bestW_some (.inr ⟨p, hp, (hpar p hp).2 hpa⟩)
def wayB (b : PBk) (a k : List Int) : List (List Int) := waysW b a b.cms.length (ixK (keysB b) k)
theorem wayB_ne {b : PBk} (hv : validB b) {a k : List Int} (ha : a ∈ keysB b) (hk : k ∈ keysB b) : wayB b a k ≠ [] ↔ a ∈ ancB b k := by
  rw [ancB_mem hv hk]
  exact way_ne hv ha (ixK (keysB b) k + 1) k hk (by omega)
def wayAns (b : PBk) (a k : List Int) : List (List Int) × Int := if openCode b [a, k] = 0 then (if a ∈ ancB b k then (wayB b a k, 0) else ([], 4)) else ([], openCode b [a, k])
/-- Ways are short. -/
theorem bestW_len {W : Nat → List (List Int)} {K : List (List Int)} {own : List Int} {N : Nat} (hW : ∀ j, (W j).length ≤ N) : ∀ {ps cur : List (List Int)}, cur.length ≤ N + 1 → (ps.foldl (viaW W K own) cur).length ≤ N + 1
  | [], _, h => h
  | p :: r, cur, h => by
    rw [List.foldl_cons]
    refine bestW_len hW ?_
    unfold viaW
    split
    · exact h
    · split
      · have := hW (ixK K p)
        rw [List.length_append, List.length_singleton]
        omega
      · exact h
theorem waysW_len (b : PBk) (a : List Int) : ∀ n j, (waysW b a n j).length ≤ n + 1
  | 0, j => by rw [waysW_zero]; split <;> simp
  | n + 1, j => by
    have ih := waysW_len b a n
    unfold waysW
    split
    · have := ih j; omega
    · unfold setW
      split
      · exact bestW_len ih (by simp)
      · have := ih j; omega
theorem wayAns_small (b : PBk) (a k : List Int) : sizeKeyS (wayAns b a k).1 ≤ 41 := by
  unfold wayAns
  split
  · rename_i h
    unfold openCode at h
    split at h
    · rename_i hv
      split
      · have := waysW_len b a b.cms.length (ixK (keysB b) k)
        have := hv.1.1
        show (wayB b a k).length ≤ 41
        unfold wayB
        omega
      · simp [sizeKeyS]
    · cases h
  · simp [sizeKeyS]
theorem wayAns_msmall (b : PBk) (a k : List Int) : msizeKeyS (wayAns b a k).1 ≤ 1312 := by
  have := wayAns_small b a k
  unfold sizeKeyS at this
  unfold msizeKeyS
  omega
end Go.Proofs.YtaadgdbegpmlmaaGreat
