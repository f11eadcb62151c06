/- Slices: what a slice reads as ('SlAt'), a slice that the call itself makes grow ('SlO'), append, slice literals, reslicing. -/
import Derived.Test.YtkifkdkjljcclaaGreatPkLTor03
namespace Go.Sx
open Go.RowKit (Below)

def slTok (P : Program) (t e z by_ : Nat) : Bool :=
  match P.underlying t, P.info? e with
  | some (.slice e'), some i => Nat.beq e' e && Nat.beq i.size z && Nat.beq i.bytes by_ && Nat.blt 0 z && (match i.zero with | some v => Nat.beq v.cells.size z | none => false)
  | _, _ => false

structure SlT (P : Program) (t e z by_ : Nat) : Prop where
  ut : P.underlying t = some (.slice e)
  ex : ∃ i zv, P.info? e = some i ∧ i.zero = some zv ∧ i.size = z ∧ i.bytes = by_ ∧ zv.cells.size = z
  pos : 0 < z

theorem slT_of {P : Program} {t e z by_ : Nat} (h : slTok P t e z by_ = true) : SlT P t e z by_ := by
  unfold slTok at h
  split at h
  · rename_i e' i hu hi
    simp only [Bool.and_eq_true] at h
    obtain ⟨⟨⟨⟨h1, h2⟩, h3⟩, h4⟩, h5⟩ := h
    split at h5
    · rename_i v hv
      refine ⟨by rw [hu, Nat.eq_of_beq_eq_true h1], ⟨i, v, hi, hv, Nat.eq_of_beq_eq_true h2, Nat.eq_of_beq_eq_true h3, Nat.eq_of_beq_eq_true h5⟩, Nat.le_of_ble_eq_true h4⟩
    · cases h5
  · cases h

structure SlAt (w : World) (s : Sl) (z : Nat) (xs : List Value) : Prop where
  len : xs.length = s.n * z
  cell : ∀ j v, xs[j]? = some v → ∃ p, s.a = some p ∧ w.cell? (p.add j) = some v

theorem SlAt.below {w w' : World} {s : Sl} {z : Nat} {xs : List Value} (h : SlAt w s z xs) (hb : Below w.heap.size w w') : SlAt w' s z xs :=
  ⟨h.len, fun j v hv => let ⟨p, hp, hc⟩ := h.cell j v hv; ⟨p, hp, by rw [hb.cell (block_lt_of_cell hc)]; exact hc⟩⟩

variable {P : Program} {R : Value → World → Prop} {w0 w : World} {ls : List Blk}

theorem SlAt.at {s : Sl} {z : Nat} {xs : List Value} (h : SlAt w0 s z xs) (hA : At w0 w ls) : SlAt w s z xs := h.below hA.below

theorem SlAt.drew' {s : Sl} {z : Nat} {xs : List Value} (h : SlAt w s z xs) : SlAt w.drew s z xs := h.below (Below.refl _ _).drew

theorem add_lit (b o j : Nat) : (⟨b, o, none⟩ : Addr).add j = ⟨b, o + j, none⟩ := by unfold Addr.add; split <;> simp_all

theorem At.sl (hA : At w0 w ls) (i : Nat) {g o : Nat} {cur : Array Value} {e : TypeId} (hl : ls[i]? = some (g, cur, e)) {s : Sl} {z : Nat} {xs : List Value} (ha : s.a = some ⟨g, o, none⟩) (hn : xs.length = s.n * z) (hx : (cur.toList.drop o).take xs.length = xs) : SlAt w s z xs := by
  refine ⟨hn, fun j v hv => ⟨_, ha, ?_⟩⟩
  have hlt : j < xs.length := by
    rcases Nat.lt_or_ge j xs.length with h | h
    · exact h
    · rw [List.getElem?_eq_none h] at hv; cases hv
  rw [add_lit]
  simp only [World.cell?, hA.get hl, Option.isSome_none, Bool.false_eq_true, if_false]
  rw [← hx, List.getElem?_take, if_pos hlt, List.getElem?_drop] at hv
  simpa using hv

structure SlO (w0 w : World) (ls : List Blk) (e z : Nat) (s : Sl) (xs : List Value) : Prop where
  at_ : At w0 w ls
  len : xs.length = s.n * z
  own : (s.a = none ∧ s.n = 0 ∧ s.c = 0) ∨ ∃ g cur, s.a = some ⟨g, 0, none⟩ ∧ At w0 w ((g, cur, e) :: ls) ∧ s.n ≤ s.c ∧ s.c ≤ maxLen ∧ cur.size = s.c * z ∧ cur.toList.take xs.length = xs

theorem SlO.sl {e z : Nat} {s : Sl} {xs : List Value} (h : SlO w0 w ls e z s xs) : SlAt w s z xs := by
  rcases h.own with ⟨_, hn, _⟩ | ⟨g, cur, ha, hA, _, _, _, ht⟩
  · have : xs = [] := List.eq_nil_of_length_eq_zero (by rw [h.len, hn, Nat.zero_mul])
    subst this
    exact ⟨by rw [h.len], fun j v hv => by simp at hv⟩
  · exact hA.sl 0 rfl ha h.len (by simpa using ht)

theorem SlO.nil (hA : At w0 w ls) (e z : Nat) : SlO w0 w ls e z ⟨none, 0, 0⟩ [] := ⟨hA, by simp, .inl ⟨rfl, rfl, rfl⟩⟩

theorem SlO.trans {w' : World} {e z : Nat} {s : Sl} {xs : List Value} (h : SlO w0 w ls e z s xs) (hb : Below w.heap.size w w') : SlO w0 w' ls e z s xs :=
  ⟨h.at_.trans hb, h.len, h.own.imp id fun ⟨g, cur, ha, hA, r⟩ => ⟨g, cur, ha, hA.trans hb, r⟩⟩

theorem SlO.made (hA : At w0 w ls) {g c n : Nat} {cur : Array Value} {e z : Nat} {xs : List Value} {w' : World} (hb : Below w.heap.size w w') (hg : w'.heap[g]? = some (.cells cur e (0, 0))) (hge : w.heap.size ≤ g)
    (hn : xs.length = n * z) (h1 : n ≤ c) (h2 : c ≤ maxLen) (h3 : cur.size = c * z) (h4 : cur.toList.take xs.length = xs) : SlO w0 w' ls e z ⟨some ⟨g, 0, none⟩, n, c⟩ xs :=
  ⟨hA.trans hb, hn, .inr ⟨g, cur, rfl, (hA.trans hb).add hg (Nat.le_trans hA.size hge) (hA.fresh hge), h1, h2, h3, h4⟩⟩

theorem run_first {z : Nat} {s : Sl} {xs : List Value} (h : SlAt w s z xs) : (Builtin.firstCells z s.n (.slice s.a s.n s.c)).run P w = .ok xs.toArray w := by
  cases ha : s.a with
  | none =>
    have : xs = [] := by
      cases xs with
      | nil => rfl
      | cons v r => obtain ⟨p, hp, _⟩ := h.cell 0 v rfl; rw [ha] at hp; cases hp
    subst this
    exact run_firstCells_none _ _ _ _ _
  | some a =>
    refine run_firstCells_some w z s.n a _ _ xs h.len fun j v hv => ?_
    obtain ⟨p, hp, hc⟩ := h.cell j v hv
    rw [ha] at hp
    cases hp
    exact hc

theorem drew_below (w : World) : Below w.heap.size w w.drew := (Below.refl _ _).drew

theorem r_append {t ty e z by_ : Nat} (hT : SlT P t e z by_) {s y : Sl} {xs news : List Value} {k : Sl → World → Prop} (hS : SlO w0 w ls e z s xs) (hy : SlAt w y z news) (h1 : ∀ v ∈ news, oneC v = true)
    (hbytes : (s.n + y.n) * by_ ≤ 140737488355328) (hmax : s.n + y.n ≤ 140737488355328) (h : ∀ s' w', SlO w0 w' ls e z s' (xs ++ news) → s'.n = s.n + y.n → k s' w') :
    ((real P R).sem (Builtin.append_ #[t, t] ty #[.slice s.a s.n s.c, .slice y.a y.n y.c]) .slice k : World → Prop) w := by
  obtain ⟨i, zv, hi, hz, hsz, hby, hzs⟩ := hT.ex
  have hmx : s.n + y.n ≤ maxLen := by unfold maxLen; omega
  have hlen : (xs ++ news).length = (s.n + y.n) * z := by rw [List.length_append, hS.len, hy.len, Nat.add_mul]
  have hfy := run_first (P := P) hy
  have hzero : (zeroValue e).run P w = .ok zv w := by simp [zeroValue, typeInfo, hi, hz]
  by_cases hroom : s.n + y.n ≤ s.c
  · rcases hS.own with ⟨ha, hn, hc⟩ | ⟨g, cur, ha, hA, hnc, hcm, hcs, htk⟩
    · have hy0 : y.n = 0 := by omega
      have hnews : news = [] := List.eq_nil_of_length_eq_zero (by rw [hy.len, hy0, Nat.zero_mul])
      subst hnews
      refine ⟨s, w, ?_, h s w ⟨hS.at_, by simpa using hS.len, ?_⟩ (by omega)⟩
      · simp only [Sh.emb, ha, hn, hc, hy0] at hfy ⊢
        simp [Builtin.append_, run_underlying hT.ut, sizeOf, typeInfo, hi, hsz, Builtin.lenOf, hfy]
      · rw [List.append_nil]; exact .inl ⟨ha, hn, hc⟩
    · have hfit : s.n * z + news.length ≤ cur.size := by rw [hy.len, hcs, ← Nat.add_mul]; exact Nat.mul_le_mul_right _ hroom
      have hg : w.heap[g]? = some (.cells cur e (0, 0)) := hA.get (i := 0) rfl
      obtain ⟨k1, k2, k3, k4, k5, k6, k7⟩ := stW_heap news (s.n * z) 0 w cur hg (by simpa using hfit) h1
      have hst := run_storeCells (P := P) ⟨g, s.n * z, none⟩ news 0 w k1
      have hcur' : (cur.toList.take (s.n * z + 0) ++ news ++ cur.toList.drop (s.n * z + 0 + news.length)).toArray.size = s.c * z := by
        simp only [List.size_toArray, List.length_append, List.length_take, List.length_drop, Array.length_toList]; omega
      have hA' := hA.write (i := 0) rfl k2 k3 k4 k5 k6 k7
      refine ⟨⟨s.a, s.n + y.n, s.c⟩, stW w ⟨g, s.n * z, none⟩ news 0, ?_, h _ _ ⟨hA'.take _ (List.sublist_cons_self _ _), hlen, .inr ⟨g, _, ha, hA', hroom, hcm, hcur', ?_⟩⟩ rfl⟩
      · simp only [Sh.emb]
        simp [Builtin.append_, run_underlying hT.ut, sizeOf, typeInfo, hi, hsz, Builtin.lenOf, hroom, hfy, ha, add_lit, hst]
      · have e1 : xs.length = s.n * z := hS.len
        have e2 : cur.toList.take (s.n * z + 0) = xs := by rw [Nat.add_zero, ← e1]; exact htk
        simp only [e2]
        rw [List.append_assoc, ← List.append_assoc]
        exact List.take_left
  · have hfx := run_first (P := P) hS.sl.drew'
    have h63' : ¬ (9223372036854775807 < ((s.n : Int) + (y.n : Int))) := by omega
    have hfit := growslice_fits (need := s.n + y.n) (old := s.c) (bytes := by_) (by omega) hbytes
    have h48' : ¬ (281474976710656 < Builtin.nextslicecap (s.n + y.n) s.c * i.bytes) := by rw [hby]; omega
    have hge := grownCap_ge w (s.n + y.n) s.c e
    have hcm := grownCap_le_maxLen w (s.n + y.n) s.c e hmx
    have hfy' := run_first (P := P) hy.drew'
    have hsz' : (xs.toArray ++ news.toArray ++ Builtin.zeroCells zv.cells (grownCap w (s.n + y.n) s.c e - (s.n + y.n))).size = grownCap w (s.n + y.n) s.c e * z := by
      simp only [Array.size_append, List.size_toArray, size_zeroCells, hzs, hS.len, hy.len, ← Nat.add_mul]
      congr 1
      omega
    have htk : (xs.toArray ++ news.toArray ++ Builtin.zeroCells zv.cells (grownCap w (s.n + y.n) s.c e - (s.n + y.n))).toList.take (xs ++ news).length = xs ++ news := by
      simp only [Array.toList_append]
      exact List.take_left
    refine ⟨⟨some ⟨w.heap.size, 0, none⟩, s.n + y.n, grownCap w (s.n + y.n) s.c e⟩, w.drew.alloc (.cells (xs.toArray ++ news.toArray ++ Builtin.zeroCells zv.cells (grownCap w (s.n + y.n) s.c e - (s.n + y.n))) e), ?_,
      h _ _ (SlO.made hS.at_ ((drew_below w).trans ((below_alloc w.drew _).mono (Nat.le_refl _))) (heap_alloc_self w.drew _) (Nat.le_refl _) hlen hge hcm hsz' htk) rfl⟩
    simp only [Sh.emb]
    simp [Builtin.append_, run_underlying hT.ut, sizeOf, typeInfo, zeroValue, hi, hz, hsz, Builtin.lenOf, hroom, h63', h48', Question.forced, hfx, hfy', newRow, grownCap]
    congr 2
    apply Array.ext'
    simp

theorem fill_seg (off : Nat) : ∀ (l : List Value) (k : Nat) (cs : Array Value), off + k + l.length ≤ cs.size →
    (l.zipIdx k).foldl (fun cs x => cs.setIfInBounds (off + x.2) x.1) cs = (cs.toList.take (off + k) ++ l ++ cs.toList.drop (off + k + l.length)).toArray
  | [], k, cs, _ => by simp
  | v :: r, k, cs, h => by
    simp only [List.length_cons] at h
    rw [List.zipIdx_cons, List.foldl_cons, fill_seg off r (k + 1) _ (by simp; omega)]
    have e := list_seg_step cs.toList (off + k) v r (by simp; omega)
    congr 1
    simpa [Array.toList_setIfInBounds, Nat.add_assoc] using e

theorem fill_one {z off : Nat} {cs : Array Value} {v : Value} (hv : v.cells.size = z) (ho : off + z ≤ cs.size) (place : Nat → Option (Nat × Nat)) (i : Nat) (hp : place i = some (off, z)) (rest : List (Nat × Value)) :
    Instr.fill place cs ((i, v) :: rest) = Instr.fill place (cs.toList.take off ++ v.cells.toList ++ cs.toList.drop (off + z)).toArray rest := by
  have hf : v.cells.zipIdx.foldl (fun cs x => cs.setIfInBounds (off + x.2) x.1) cs = (cs.toList.take off ++ v.cells.toList ++ cs.toList.drop (off + z)).toArray := by
    rw [← Array.foldl_toList, Array.toList_zipIdx, fill_seg off _ 0 cs (by simp; omega)]
    simp [hv]
  simp only [Instr.fill, hp]
  have h1 : ¬ (v.cells.size ≠ z || off + v.cells.size > cs.size) = true := by simp [hv]; omega
  rw [if_neg h1]
  congr 1

theorem run_bs1 {t e z by_ : Nat} (hT : SlT P t e z by_) {v : Value} (hv : v.cells.size = z) (hz : z ≤ 16777216) (w : World) :
    (Instr.buildSlice t 1 #[(0, v)]).run P w = .ok (.slice (some ⟨w.heap.size, 0, none⟩) 1 1) (w.alloc (.cells v.cells e)) := by
  obtain ⟨i, zv, hi, hzv, hsz, hby, hzs⟩ := hT.ex
  have h0 : ¬ (16777216 < z) := by omega
  have hz0 : ¬ z = 0 := by have := hT.pos; omega
  have hf : ∀ cs : Array Value, cs.size = z → Instr.fill (fun i => some (i * z, z)) cs [(0, v)] = some v.cells := by
    intro cs hcs
    rw [fill_one (off := 0) hv (by omega) _ 0 (by simp) []]
    simp only [Instr.fill, List.take_zero, List.nil_append, Nat.zero_add]
    rw [List.drop_eq_nil_of_le (by simp; omega)]
    simp
  simp [Instr.buildSlice, run_underlying hT.ut, sizeOf, typeInfo, hi, hsz, h0, hz0, zeroValue, hzv, hf, newRow]

theorem run_bs0 {t e z by_ : Nat} (hT : SlT P t e z by_) (w : World) :
    (Instr.buildSlice t 0 #[]).run P w = .ok (.slice (some ⟨w.heap.size, 0, none⟩) 0 0) (w.alloc (.cells #[] e)) := by
  obtain ⟨i, zv, hi, hzv, hsz, hby, hzs⟩ := hT.ex
  have h0 : Array.range 0 = #[] := rfl
  simp [Instr.buildSlice, run_underlying hT.ut, sizeOf, typeInfo, hi, Instr.fill, newRow, h0]

theorem r_push {t ty e z by_ : Nat} (hT : SlT P t e z by_) {v : Value} {s : Sl} {xs : List Value} {k : Sl → World → Prop} (hS : SlO w0 w ls e z s xs) (hv : v.cells.size = z) (hz : z ≤ 16777216) (h1 : ∀ u ∈ v.cells.toList, oneC u = true)
    (hbytes : (s.n + 1) * by_ ≤ 140737488355328) (hmax : s.n + 1 ≤ 140737488355328) (h : ∀ s' w', SlO w0 w' ls e z s' (xs ++ v.cells.toList) → s'.n = s.n + 1 → k s' w') :
    ((real P R).sem (Instr.buildSlice t 1 #[(0, v)]) .slice fun y => (real P R).sem (Builtin.append_ #[t, t] ty #[.slice s.a s.n s.c, .slice y.a y.n y.c]) .slice k : World → Prop) w := by
  refine ⟨⟨some ⟨w.heap.size, 0, none⟩, 1, 1⟩, _, run_bs1 hT hv hz w, ?_⟩
  have hb := below_alloc w (.cells v.cells e)
  refine r_append hT (hS.trans hb) (y := ⟨some ⟨w.heap.size, 0, none⟩, 1, 1⟩) (news := v.cells.toList) ⟨by simp [hv], fun j u hu => ⟨_, rfl, ?_⟩⟩ h1 hbytes hmax h
  rw [add_lit, cell_of_row _ _ _ _ _ _ (heap_alloc_self w _)]
  simpa using hu

theorem r_bs0 {t e z by_ : Nat} (hT : SlT P t e z by_) (hA : At w0 w ls) {k : Sl → World → Prop} (h : ∀ s w', SlO w0 w' ls e z s [] → s.n = 0 → k s w') : ((real P R).sem (Instr.buildSlice t 0 #[]) .slice k : World → Prop) w :=
  ⟨⟨some ⟨w.heap.size, 0, none⟩, 0, 0⟩, _, run_bs0 hT w, h _ _ (SlO.made hA (below_alloc w _) (heap_alloc_self w _) (Nat.le_refl _) (by simp) (Nat.le_refl _) (Nat.zero_le _) (by simp) (by simp)) rfl⟩

theorem r_bs1 {t e z by_ : Nat} (hT : SlT P t e z by_) (hA : At w0 w ls) {v : Value} (hv : v.cells.size = z) (hz : z ≤ 16777216) {k : Sl → World → Prop} (h : ∀ s w', SlO w0 w' ls e z s v.cells.toList → s.n = 1 → k s w') :
    ((real P R).sem (Instr.buildSlice t 1 #[(0, v)]) .slice k : World → Prop) w :=
  ⟨⟨some ⟨w.heap.size, 0, none⟩, 1, 1⟩, _, run_bs1 hT hv hz w, h _ _ (SlO.made hA (below_alloc w _) (heap_alloc_self w _) (Nat.le_refl _) (by simp [hv]) (Nat.le_refl _) (by unfold maxLen; omega) (by simp [hv]) (by rw [List.take_of_length_le (by simp)])) rfl⟩

theorem r_sl {a : Option Addr} {n c z : Nat} {lo hi : Option Int} {k : Sl → World → Prop} (l h : Nat) (hl : lo.getD 0 = (l : Int)) (hh : hi.getD n = (h : Int)) (h1 : l ≤ h) (h2 : h ≤ c)
    (hk : k ⟨if c = l then a else a.map (·.add (l * z)), h - l, c - l⟩ w) : ((real P R).sl a n c z lo hi none k : World → Prop) w := by
  refine ⟨by rw [hl]; omega, by rw [hl, hh]; omega, by rw [hh]; simp; omega, by simp, ?_⟩
  simp only [hl, hh, Option.getD_none, Int.toNat_natCast]
  have e : ((c : Int) = (l : Int)) = (c = l) := by simp [Int.ofNat_inj]
  simp only [e]
  exact hk

theorem SlAt.slice {s : Sl} {z : Nat} {xs : List Value} (h : SlAt w s z xs) (hz : 0 < z) (l k : Nat) (h1 : l ≤ k) (h2 : k ≤ s.n) (hc : s.n ≤ s.c) : SlAt w ⟨if s.c = l then s.a else s.a.map (·.add (l * z)), k - l, s.c - l⟩ z ((xs.drop (l * z)).take ((k - l) * z)) := by
  have hlen : (k - l) * z + l * z = k * z := by rw [← Nat.add_mul]; congr 1; omega
  have hkn : k * z ≤ s.n * z := Nat.mul_le_mul_right _ h2
  refine ⟨by show _ = (k - l) * z; rw [List.length_take, List.length_drop, h.len]; exact Nat.min_eq_left (by omega), fun j v hv => ?_⟩
  rw [List.getElem?_take] at hv
  split at hv
  · rename_i hj
    rw [List.getElem?_drop] at hv
    obtain ⟨p, hp, hcl⟩ := h.cell _ _ hv
    by_cases hcl' : s.c = l
    · have : (k - l) * z = 0 := by have : k - l = 0 := by omega
                                   rw [this, Nat.zero_mul]
      omega
    · refine ⟨p.add (l * z), by simp [hcl', hp], ?_⟩
      have : (p.add (l * z)).add j = p.add (l * z + j) := by
        unfold Addr.add
        by_cases e1 : l * z = 0
        · simp [e1]
        · by_cases e2 : j = 0
          · simp [e1, e2]
          · simp [e1, e2]; omega
      rw [this]
      exact hcl
  · cases hv

theorem r_callR {f : FuncId} {args : List Value} {l : List Sh} {R1 : Value → World → Prop} {k : TL l → World → Prop} (hc : Calls P f args.toArray w fun e w' => ∃ v, e = .returned v ∧ R1 v w')
    (h : ∀ v w', R1 v w' → ∃ x, v = valL (embL l x) ∧ k x w') : ((real P R).call f args l k : World → Prop) w :=
  Calls.mono hc fun _ _ ⟨v, he, hv⟩ => let ⟨x, hx, hk⟩ := h v _ hv; ⟨x, by rw [he, hx], hk⟩
theorem r_retR {v : Value} (h : R v w) : ((real P R).ret v : World → Prop) w := h

theorem r_slS {wr : World} {a : Option Addr} {n c z : Nat} {xs : List Value} {lo hi : Option Int} {k : Sl → World → Prop} (hs : SlAt wr ⟨a, n, c⟩ z xs) (hz : 0 < z) (l h : Nat) (hl : lo.getD 0 = (l : Int)) (hh : hi.getD n = (h : Int)) (h1 : l ≤ h) (h2 : h ≤ n) (hc : n ≤ c)
    (hk : ∀ s : Sl, s.n = h - l → s.c = c - l → SlAt wr s z ((xs.drop (l * z)).take ((h - l) * z)) → k s w) : ((real P R).sl a n c z lo hi none k : World → Prop) w :=
  r_sl l h hl hh h1 (Nat.le_trans h2 hc) (hk _ rfl rfl (hs.slice hz l h h1 h2 hc))

theorem SlAt.agg {s : Sl} {xs : List Value} {z : Nat} {p : Addr} (h : SlAt w s z xs) (hp : s.a = some p) {n : Nat} (hn : n ≤ xs.length) : ldOk w n p .agg (xs.take n).toArray := by
  refine ⟨by simp; omega, fun j v hv => ?_⟩
  simp only [List.getElem?_toArray, List.getElem?_take] at hv
  split at hv
  · obtain ⟨q, hq, hc⟩ := h.cell j v hv
    rw [hp] at hq
    cases hq
    exact hc
  · cases hv

theorem SlAt.elem {s : Sl} {xs : List Value} {z : Nat} (h : SlAt w s z xs) {i : Nat} (hi : i < s.n) (hz : 0 < z) : ∃ p, s.a = some p ∧ ldOk w z (p.add (i * z)) .agg ((xs.drop (i * z)).take z).toArray := by
  have h1 : (i + 1) * z ≤ s.n * z := Nat.mul_le_mul_right _ hi
  rw [Nat.add_mul, Nat.one_mul] at h1
  have hlt : i * z < xs.length := by rw [h.len]; omega
  obtain ⟨p, hp, _⟩ := h.cell (i * z) _ (List.getElem?_eq_getElem hlt)
  refine ⟨p, hp, by simp [h.len]; omega, fun j v hv => ?_⟩
  simp only [List.getElem?_toArray, List.getElem?_take] at hv
  split at hv
  · rw [List.getElem?_drop] at hv
    obtain ⟨q, hq, hc⟩ := h.cell _ _ hv
    rw [hp] at hq
    cases hq
    have : (p.add (i * z)).add j = p.add (i * z + j) := by
      unfold Addr.add
      by_cases e1 : i * z = 0
      · simp [e1]
      · by_cases e2 : j = 0
        · simp [e1, e2]
        · simp [e1, e2]; omega
    rw [this]
    exact hc
  · cases hv

theorem SlO.lift {w' : World} {e z : Nat} {s : Sl} {xs : List Value} (hA : At w0 w ls) (h : SlO w w' [] e z s xs) : SlO w0 w' ls e z s xs :=
  ⟨hA.trans h.at_.below, h.len, h.own.imp id fun ⟨g, cur, ha, hA', r⟩ => ⟨g, cur, ha, (hA.trans h.at_.below).add (hA'.get (i := 0) rfl) (Nat.le_trans hA.size (hA'.ge _ (.head _))) (hA.fresh (hA'.ge _ (.head _))), r⟩⟩

theorem r_ne {a b : Int} {x y : World → Prop} (h1 : a ≠ b → x w) (h2 : a = b → y w) : (cond (a != b) x y) w := by
  by_cases h : a = b
  · have : (a != b) = false := by simp [h]
    rw [this]; exact h2 h
  · have : (a != b) = true := by simp [h]
    rw [this]; exact h1 h
theorem r_eq {a b : Int} {x y : World → Prop} (h1 : a = b → x w) (h2 : a ≠ b → y w) : (cond (a == b) x y) w := by
  by_cases h : a = b
  · have : (a == b) = true := by simp [h]
    rw [this]; exact h1 h
  · have : (a == b) = false := by simp [h]
    rw [this]; exact h2 h

theorem r_copy {dT sT ty elem : TypeId} (hu : P.underlying dT = some (.slice elem)) (hz : ∀ w, (sizeOf elem).run P w = .ok 1 w) (hA : At w0 w ls) (i : Nat) {b o : Nat} {cs : Array Value} {t : TypeId} (hl : ls[i]? = some (b, cs, t)) {n c : Nat} {y : Sl} {news : List Value} {k : Int → World → Prop}
    (hy : SlAt w y 1 news) (hn : y.n ≤ n) (hfit : o + y.n ≤ cs.size) (h1 : ∀ v ∈ news, oneC v = true)
    (h : ∀ w', At w0 w' (ls.set i (b, (cs.toList.take o ++ news ++ cs.toList.drop (o + y.n)).toArray, t)) → k y.n w') :
    ((real P R).sem (Builtin.copy_ #[dT, sT] ty #[.slice (some ⟨b, o, none⟩) n c, .slice y.a y.n y.c]) (.int .i64) k : World → Prop) w := by
  have hlen : news.length = y.n := by have := hy.len; omega
  have hb := hA.get hl
  obtain ⟨k1, k2, k3, k4, k5, k6, k7⟩ := stW_heap news o 0 w cs hb (by omega) h1
  have hst := run_storeCells (P := P) ⟨b, o, none⟩ news 0 w k1
  have hf := run_first (P := P) hy
  refine ⟨(y.n : Int), stW w ⟨b, o, none⟩ news 0, ?_, h _ (hA.write hl (by rw [k2]; simp [hlen]) k3 k4 k5 k6 k7)⟩
  have hmin : min y.n n = y.n := by omega
  simp only [Sh.emb]
  simp [Builtin.copy_, run_underlying hu, Builtin.lenOf, hz, hmin, hf, hst, goInt]

theorem SlO.entry {e z : Nat} {s : Sl} {xs : List Value} (h : SlO w0 w ls e z s xs) (hn : 0 < s.n) : ∃ g cur, s.a = some ⟨g, 0, none⟩ ∧ At w0 w ((g, cur, e) :: ls) ∧ s.n ≤ s.c ∧ cur.toList.take xs.length = xs := by
  rcases h.own with ⟨_, h0, _⟩ | ⟨g, cur, ha, hA, h1, _, _, h4⟩
  · omega
  · exact ⟨g, cur, ha, hA, h1, h4⟩

theorem r_chk1 {h1 : Held} {k : World → Prop} (hH : ldOk w h1.n h1.p h1.sh h1.x) (h : k w) : ((real P R).chk [h1] k : World → Prop) w := ⟨fun x hx => by simp at hx; subst hx; exact hH, h⟩
theorem ldOk_blk (hA : At w0 w ls) (i : Nat) {b n : Nat} {cs : Array Value} {t : TypeId} (hl : ls[i]? = some (b, cs, t)) (hn : cs.size = n) : ldOk w n ⟨b, 0, none⟩ .agg cs :=
  ⟨hn, fun j v hv => by rw [add_lit]; simp [World.cell?, hA.get hl, hv]⟩

theorem r_callS {f : FuncId} {args : List Value} {e z n : Nat} {xs : List Value} {k : Sl → World → Prop} (hA : At w0 w ls) (hc : Ret P f args w [.slice] fun s w' => SlO w w' [] e z s xs ∧ s.n = n)
    (h : ∀ s w', SlO w0 w' ls e z s xs → s.n = n → k s w') : ((real P R).call f args [.slice] k : World → Prop) w :=
  r_call hA hc fun s w' _ _ ⟨hs, hn⟩ => h s w' (SlO.lift hA hs) hn

end Go.Sx
