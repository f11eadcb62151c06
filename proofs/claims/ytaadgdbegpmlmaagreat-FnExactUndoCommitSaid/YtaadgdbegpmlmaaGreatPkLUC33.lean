/- History: what undoing makes of a map: plain. -/
import Derived.Test.YtaadgdbegpmlmaaGreatPkLUC30
import Derived.Test.YtaadgdbegpmlmaaGreatPkLUC32
namespace Go.Proofs.YtaadgdbegpmlmaaGreat
open Go.Sx Go.RowKit

def ltN (a b : ByteArray) : Bool := Op.bytesLess a.toList b.toList
theorem strEq {a b : ByteArray} (h : a.toList = b.toList) : a = b := by
  rw [ByteArray.toList_eq, ByteArray.toList_eq] at h
  apply ByteArray.ext
  exact Array.ext' h
theorem bl_trans : ∀ {a b c : List UInt8}, Op.bytesLess a b = true → Op.bytesLess b c = true → Op.bytesLess a c = true
  | _, [], _, h, _ => by rename_i a c; cases a <;> simp [Op.bytesLess] at h
  | _, _ :: _, [], _, h => by simp [Op.bytesLess] at h
  | [], _ :: _, _ :: _, _, _ => by simp [Op.bytesLess]
  | x :: a, y :: b, z :: c, h1, h2 => by
    simp only [Op.bytesLess, Bool.or_eq_true, Bool.and_eq_true, decide_eq_true_eq, beq_iff_eq] at h1 h2 ⊢
    rcases h1 with h1 | ⟨rfl, h1⟩
    · rcases h2 with h2 | ⟨rfl, h2⟩
      · exact .inl (UInt8.lt_trans h1 h2)
      · exact .inl h1
    · rcases h2 with h2 | ⟨rfl, h2⟩
      · exact .inl h2
      · exact .inr ⟨rfl, bl_trans h1 h2⟩
theorem ltN_trans {a b c : ByteArray} (h : ltN a b = true) (g : ltN b c = true) : ltN a c = true := bl_trans h g
theorem ltN_self (a : ByteArray) : ltN a a = false := by
  have := bl_total a.toList a.toList
  unfold ltN
  cases h : Op.bytesLess a.toList a.toList with
  | false => rfl
  | true => rw [h] at this; simp at this
theorem ltN_of {a b : ByteArray} (h : ltN a b = false) (hne : a ≠ b) : ltN b a = true := by
  have := bl_total b.toList a.toList
  unfold ltN at h ⊢
  rw [h] at this
  simp only [Bool.not_false, Bool.or_eq_true, beq_iff_eq] at this
  rcases this with h1 | h1
  · exact h1
  · exact absurd (strEq h1).symm hne
theorem ltN_ne {a b : ByteArray} (h : ltN a b = true) : a ≠ b := fun hh => by rw [hh, ltN_self] at h; cases h
def AscN (es : List PE) : Prop := es.Pairwise fun e f => ltN e.1 f.1 = true
theorem ascN_of {es : List PE} (h : okE es) : AscN es := by
  have key : ∀ (j i : Nat), i < j → ∀ (e f : PE), es[i]? = some e → es[j]? = some f → ltN e.1 f.1 = true := by
    intro j
    induction j with
    | zero => intro i h; omega
    | succ j ih =>
      intro i hi e f he hf
      have hjl := (List.getElem?_eq_some_iff.1 hf).1
      have hg := h.1 (j + 1) hjl
      unfold goodE at hg
      simp only [Bool.and_eq_true, Bool.or_eq_true, decide_eq_true_eq] at hg
      have hlt : ltN (entE es j).1 (entE es (j + 1)).1 = true := by
        rcases hg.2 with h0 | h0
        · omega
        · exact h0
      rw [entE_get hf] at hlt
      have hgj : es[j]? = some es[j] := List.getElem?_eq_getElem (by omega)
      rw [entE_get hgj] at hlt
      rcases Nat.lt_or_ge i j with h1 | h1
      · exact ltN_trans (ih i h1 e _ he hgj) hlt
      · have : i = j := by omega
        subst this
        rw [hgj] at he
        cases he
        exact hlt
  refine List.pairwise_iff_getElem.2 fun i j hi hj hij => ?_
  exact key j i hij _ _ (List.getElem?_eq_getElem hi) (List.getElem?_eq_getElem hj)
def entGood (e : PE) : Prop := nameOk e.1.size = true ∧ e.2.size ≤ 64
theorem entGood_of {es : List PE} (h : okE es) {e : PE} (he : e ∈ es) : entGood e := by
  obtain ⟨j, hj, rfl⟩ := List.getElem_of_mem he
  have hg := h.1 j hj
  have he2 : entE es j = es[j] := entE_get (List.getElem?_eq_getElem hj)
  unfold goodE at hg
  rw [he2] at hg
  simp only [Bool.and_eq_true, decide_eq_true_eq] at hg
  exact ⟨hg.1.1, hg.1.2⟩
theorem okE_of {es : List PE} (ha : AscN es) (hg : ∀ e ∈ es, entGood e) (hl : es.length ≤ 64) : okE es := by
  refine ⟨fun j hj => ?_, hl⟩
  have he2 : entE es j = es[j] := entE_get (List.getElem?_eq_getElem hj)
  have hgj := hg _ (List.getElem_mem hj)
  unfold goodE
  rw [he2]
  simp only [Bool.and_eq_true, Bool.or_eq_true, decide_eq_true_eq]
  refine ⟨⟨hgj.1, hgj.2⟩, ?_⟩
  rcases Nat.eq_zero_or_pos j with h0 | h0
  · exact .inl h0
  · refine .inr ?_
    have he3 : entE es (j - 1) = es[j - 1] := entE_get (List.getElem?_eq_getElem (by omega))
    rw [he3]
    exact List.pairwise_iff_getElem.1 ha (j - 1) j (by omega) hj (by omega)
theorem ascN_ext : ∀ {a b : List PE}, AscN a → AscN b → (∀ e, e ∈ a ↔ e ∈ b) → a = b
  | [], [], _, _, _ => rfl
  | [], y :: s, _, _, h => by have := (h y).2 (by simp); cases this
  | x :: r, [], _, _, h => by have := (h x).1 (by simp); cases this
  | x :: r, y :: s, ha, hb, h => by
    have ha' := List.pairwise_cons.1 ha
    have hb' := List.pairwise_cons.1 hb
    have hxy : x = y := by
      rcases List.mem_cons.1 ((h x).1 (by simp)) with h1 | h1
      · exact h1
      · rcases List.mem_cons.1 ((h y).2 (by simp)) with h2 | h2
        · exact h2.symm
        · have := ltN_trans (ha'.1 y h2) (hb'.1 x h1)
          rw [ltN_self] at this
          cases this
    subst hxy
    congr 1
    refine ascN_ext ha'.2 hb'.2 fun e => ?_
    constructor
    · intro he
      rcases List.mem_cons.1 ((h e).1 (by simp [he])) with h1 | h1
      · subst h1
        have := ha'.1 e he
        rw [ltN_self] at this
        cases this
      · exact h1
    · intro he
      rcases List.mem_cons.1 ((h e).2 (by simp [he])) with h1 | h1
      · subst h1
        have := hb'.1 e he
        rw [ltN_self] at this
        cases this
      · exact h1

def posN (es : List PE) (n : ByteArray) : Nat := (es.takeWhile fun e => ltN e.1 n).length
theorem posN_le (es : List PE) (n : ByteArray) : posN es n ≤ es.length := List.Sublist.length_le (List.takeWhile_sublist _)
theorem posN_take (es : List PE) (n : ByteArray) : es.take (posN es n) = es.takeWhile fun e => ltN e.1 n := by
  have h := List.take_left' (l₁ := es.takeWhile fun e => ltN e.1 n) (l₂ := es.dropWhile fun e => ltN e.1 n) (i := posN es n) rfl
  rwa [List.takeWhile_append_dropWhile] at h
theorem posN_drop (es : List PE) (n : ByteArray) : es.drop (posN es n) = es.dropWhile fun e => ltN e.1 n := by
  have h := List.drop_left' (l₁ := es.takeWhile fun e => ltN e.1 n) (l₂ := es.dropWhile fun e => ltN e.1 n) (i := posN es n) rfl
  rwa [List.takeWhile_append_dropWhile] at h
theorem posN_lt {es : List PE} {n : ByteArray} {e : PE} (h : e ∈ es.take (posN es n)) : ltN e.1 n = true := by
  rw [posN_take] at h
  exact List.all_eq_true.1 (List.all_takeWhile (p := fun e : PE => ltN e.1 n)) e h
theorem posN_at {es : List PE} {n : ByteArray} {e : PE} (h : es[posN es n]? = some e) : ltN e.1 n = false := by
  have h2 : (es.drop (posN es n))[0]? = some e := by rw [List.getElem?_drop]; exact h
  rw [posN_drop] at h2
  have h3 : (es.dropWhile fun e => ltN e.1 n).head? = some e := by rw [List.head?_eq_getElem?]; exact h2
  have := List.head?_dropWhile_not (fun e : PE => ltN e.1 n) es
  rw [h3] at this
  simpa using this
theorem posN_of {es : List PE} {n : ByteArray} {i : Nat} (hi : i ≤ es.length) (h1 : ∀ j e, j < i → es[j]? = some e → ltN e.1 n = true) (h2 : ∀ e, es[i]? = some e → ltN e.1 n = false) : posN es n = i := by
  rcases Nat.lt_trichotomy (posN es n) i with h | h | h
  · have hg : es[posN es n]? = some es[posN es n] := List.getElem?_eq_getElem (by omega)
    have := posN_at hg
    rw [h1 _ _ h hg] at this
    cases this
  · exact h
  · have hle := posN_le es n
    have hg : es[i]? = some es[i] := List.getElem?_eq_getElem (by omega)
    have hm : es[i] ∈ es.take (posN es n) := List.mem_take_iff_getElem.2 ⟨i, by omega, rfl⟩
    have := posN_lt hm
    rw [h2 _ hg] at this
    cases this
def hitN (es : List PE) (n : ByteArray) : Bool := match es[posN es n]? with
  | some e => decide (e.1 = n)
  | none => false
def look (es : List PE) (n : ByteArray) : Option ByteArray := (es.find? fun e => decide (e.1 = n)).map (·.2)
theorem hit_some {es : List PE} {n : ByteArray} (h : hitN es n = true) : ∃ e, es[posN es n]? = some e ∧ e.1 = n := by
  unfold hitN at h
  split at h
  · rename_i e he; exact ⟨e, he, of_decide_eq_true h⟩
  · cases h
theorem hit_drop {es : List PE} {n : ByteArray} (ha : AscN es) (h : hitN es n = true) : ∃ v, es.drop (posN es n) = (n, v) :: es.drop (posN es n + 1) ∧ ∀ f ∈ es.drop (posN es n + 1), ltN n f.1 = true := by
  obtain ⟨⟨n', v⟩, he, hn⟩ := hit_some h
  dsimp only at hn
  subst hn
  have hl := (List.getElem?_eq_some_iff.1 he).1
  have hd : es.drop (posN es n') = (n', v) :: es.drop (posN es n' + 1) := by
    rw [List.drop_eq_getElem_cons hl]
    congr 1
    exact (List.getElem?_eq_some_iff.1 he).2
  refine ⟨v, hd, fun f hf => ?_⟩
  have hs : AscN (es.drop (posN es n')) := ha.sublist (List.drop_sublist _ _)
  rw [hd] at hs
  exact (List.pairwise_cons.1 hs).1 f hf
theorem miss_drop {es : List PE} {n : ByteArray} (ha : AscN es) (h : hitN es n = false) : ∀ f ∈ es.drop (posN es n), ltN n f.1 = true := by
  intro f hf
  have hs : AscN (es.drop (posN es n)) := ha.sublist (List.drop_sublist _ _)
  cases hd : es.drop (posN es n) with
  | nil => rw [hd] at hf; cases hf
  | cons e r =>
    have he : es[posN es n]? = some e := by
      have : (es.drop (posN es n))[0]? = some e := by rw [hd]; rfl
      rwa [List.getElem?_drop] at this
    have hlt := posN_at he
    have hne : e.1 ≠ n := fun hh => by
      unfold hitN at h
      rw [he] at h
      simp [hh] at h
    have hne2 := ltN_of hlt hne
    rw [hd] at hf hs
    rcases List.mem_cons.1 hf with rfl | hf
    · exact hne2
    · exact ltN_trans hne2 ((List.pairwise_cons.1 hs).1 f hf)
theorem look_none {es : List PE} {n : ByteArray} (h : ∀ e ∈ es, e.1 ≠ n) : look es n = none := by
  unfold look
  rw [List.find?_eq_none.2 (fun e he => by simpa using h e he)]
  rfl
theorem look_app {a b : List PE} {n : ByteArray} (h : ∀ e ∈ a, e.1 ≠ n) : look (a ++ b) n = look b n := by
  unfold look
  rw [List.find?_append, List.find?_eq_none.2 (fun e he => by simpa using h e he)]
  rfl
theorem look_pos {es : List PE} (n : ByteArray) : look es n = look (es.drop (posN es n)) n := by
  conv => lhs; rw [← List.take_append_drop (posN es n) es]
  exact look_app fun e he => ltN_ne (posN_lt he)
theorem look_hit {es : List PE} {n : ByteArray} {e : PE} (h : es[posN es n]? = some e) (hn : e.1 = n) : look es n = some e.2 := by
  rw [look_pos]
  have hl := (List.getElem?_eq_some_iff.1 h).1
  rw [List.drop_eq_getElem_cons hl, (List.getElem?_eq_some_iff.1 h).2]
  unfold look
  rw [List.find?_cons_of_pos (by simpa using hn)]
  rfl
theorem look_miss {es : List PE} {n : ByteArray} (ha : AscN es) (h : hitN es n = false) : look es n = none := by
  rw [look_pos]
  exact look_none fun e he => (ltN_ne (miss_drop ha h e he)).symm

theorem mem_split (es : List PE) (i : Nat) (e : PE) : e ∈ es ↔ e ∈ es.take i ∨ e ∈ es.drop i := by
  conv => lhs; rw [← List.take_append_drop i es]
  exact List.mem_append
def insN (out : List PE) (e : PE) : List PE := out.take (posN out e.1) ++ e :: out.drop (posN out e.1)
def cutN (out : List PE) (n : ByteArray) : List PE := out.take (posN out n) ++ out.drop (posN out n + 1)
def undo1 (out : List PE) (c : PCh) : List PE := if hitN out c.name = true then (if c.had then out.take (posN out c.name) ++ (c.name, c.old) :: out.drop (posN out c.name + 1) else cutN out c.name) else if c.had then insN out (c.name, c.old) else out
def undoL (X : List PCh) (E : List PE) : List PE := X.foldl undo1 E
theorem ascN_join {a b : List PE} {e : PE} (ha : AscN a) (hb : AscN b) (h1 : ∀ x ∈ a, ltN x.1 e.1 = true) (h2 : ∀ x ∈ b, ltN e.1 x.1 = true) : AscN (a ++ e :: b) := by
  refine List.pairwise_append.2 ⟨ha, List.pairwise_cons.2 ⟨h2, hb⟩, fun x hx y hy => ?_⟩
  rcases List.mem_cons.1 hy with rfl | hy
  · exact h1 x hx
  · exact ltN_trans (h1 x hx) (h2 y hy)
theorem undo1_ok {out : List PE} (ha : AscN out) (c : PCh) : AscN (undo1 out c) ∧ ∀ e, e ∈ undo1 out c ↔ (e ∈ out ∧ e.1 ≠ c.name) ∨ (c.had = true ∧ e = (c.name, c.old)) := by
  have hT : AscN (out.take (posN out c.name)) := ha.sublist (List.take_sublist _ _)
  have hD : ∀ i, AscN (out.drop i) := fun i => ha.sublist (List.drop_sublist _ _)
  have hlt : ∀ x ∈ out.take (posN out c.name), ltN x.1 c.name = true := fun x hx => posN_lt hx
  unfold undo1
  split
  · rename_i hh
    obtain ⟨v, hd, hgt⟩ := hit_drop ha hh
    have hmem : ∀ e, e ∈ out ∧ e.1 ≠ c.name ↔ e ∈ out.take (posN out c.name) ∨ e ∈ out.drop (posN out c.name + 1) := fun e => by
      rw [mem_split out (posN out c.name) e, hd, List.mem_cons]
      constructor
      · rintro ⟨h1 | h1 | h1, h2⟩
        · exact .inl h1
        · rw [h1] at h2; exact absurd rfl h2
        · exact .inr h1
      · rintro (h1 | h1)
        · exact ⟨.inl h1, ltN_ne (hlt e h1)⟩
        · exact ⟨.inr (.inr h1), (ltN_ne (hgt e h1)).symm⟩
    split
    · rename_i hhad
      refine ⟨ascN_join hT (hD _) hlt hgt, fun e => ?_⟩
      rw [hmem, List.mem_append, List.mem_cons]
      constructor
      · rintro (h1 | h1 | h1)
        · exact .inl (.inl h1)
        · exact .inr ⟨hhad, h1⟩
        · exact .inl (.inr h1)
      · rintro ((h1 | h1) | ⟨_, h1⟩)
        · exact .inl h1
        · exact .inr (.inr h1)
        · exact .inr (.inl h1)
    · rename_i hhad
      refine ⟨?_, fun e => ?_⟩
      · refine List.pairwise_append.2 ⟨hT, hD _, fun x hx y hy => ltN_trans (hlt x hx) (hgt y hy)⟩
      · unfold cutN
        rw [hmem, List.mem_append]
        constructor
        · exact .inl
        · rintro (h1 | ⟨h1, _⟩)
          · exact h1
          · exact absurd h1 hhad
  · rename_i hh
    have hgt := miss_drop ha (by simpa using hh)
    have hne : ∀ e ∈ out, e.1 ≠ c.name := fun e he => by
      rcases (mem_split out (posN out c.name) e).1 he with h1 | h1
      · exact ltN_ne (hlt e h1)
      · exact (ltN_ne (hgt e h1)).symm
    split
    · rename_i hhad
      refine ⟨ascN_join hT (hD _) hlt hgt, fun e => ?_⟩
      unfold insN
      dsimp only
      rw [List.mem_append, List.mem_cons]
      constructor
      · rintro (h1 | h1 | h1)
        · have := (mem_split out (posN out c.name) e).2 (.inl h1); exact .inl ⟨this, hne e this⟩
        · exact .inr ⟨hhad, h1⟩
        · have := (mem_split out (posN out c.name) e).2 (.inr h1); exact .inl ⟨this, hne e this⟩
      · rintro (⟨h1, _⟩ | ⟨_, h1⟩)
        · rcases (mem_split out (posN out c.name) e).1 h1 with h2 | h2
          · exact .inl h2
          · exact .inr (.inr h2)
        · exact .inr (.inl h1)
    · rename_i hhad
      refine ⟨ha, fun e => ?_⟩
      constructor
      · intro h; exact .inl ⟨h, hne e h⟩
      · rintro (⟨h1, _⟩ | ⟨h1, _⟩)
        · exact h1
        · exact absurd h1 hhad
def namesC (X : List PCh) : List ByteArray := X.map (·.name)
theorem undoL_ok : ∀ {X : List PCh} {E : List PE}, AscN E → (namesC X).Nodup → AscN (undoL X E) ∧ ∀ e, e ∈ undoL X E ↔ (e ∈ E ∧ e.1 ∉ namesC X) ∨ ∃ c ∈ X, c.had = true ∧ e = (c.name, c.old)
  | [], E, ha, _ => ⟨ha, fun e => by simp [undoL, namesC]⟩
  | c :: r, E, ha, hn => by
    have hn' : c.name ∉ namesC r ∧ (namesC r).Nodup := by simpa [namesC] using hn
    obtain ⟨h1, h2⟩ := undo1_ok ha c
    obtain ⟨h3, h4⟩ := undoL_ok (X := r) h1 hn'.2
    refine ⟨h3, fun e => ?_⟩
    show e ∈ undoL r (undo1 E c) ↔ _
    rw [h4, h2]
    have hnm : e.1 ∉ namesC (c :: r) ↔ e.1 ≠ c.name ∧ e.1 ∉ namesC r := by simp [namesC]
    rw [hnm]
    constructor
    · rintro (⟨⟨h5, h6⟩ | ⟨h5, h6⟩, h7⟩ | ⟨d, hd, h5, h6⟩)
      · exact .inl ⟨h5, h6, h7⟩
      · exact .inr ⟨c, by simp, h5, h6⟩
      · exact .inr ⟨d, by simp [hd], h5, h6⟩
    · rintro (⟨h5, h6, h7⟩ | ⟨d, hd, h5, h6⟩)
      · exact .inl ⟨.inl ⟨h5, h6⟩, h7⟩
      · rcases List.mem_cons.1 hd with rfl | hd
        · exact .inl ⟨.inr ⟨h5, h6⟩, by rw [h6]; exact hn'.1⟩
        · exact .inr ⟨d, hd, h5, h6⟩

def revC (c : PCh) : PCh := ⟨c.name, c.has, c.new, c.had, c.old⟩
def keepN (Y : List PCh) (E : List PE) : List PE := E.filter fun e => !Y.any fun c => decide (c.name = e.1)
def undone1 (out : List PE) (c : PCh) : List PE := if c.has then insN out (c.name, c.new) else out
def undone (Y : List PCh) (E : List PE) : List PE := Y.foldl undone1 (keepN Y E)
theorem ins_ok {out : List PE} (ha : AscN out) {e : PE} (hne : ∀ f ∈ out, f.1 ≠ e.1) : AscN (insN out e) ∧ ∀ f, f ∈ insN out e ↔ f ∈ out ∨ f = e := by
  have hh : hitN out e.1 = false := by
    cases h : hitN out e.1 with
    | false => rfl
    | true =>
      obtain ⟨f, hf, hfe⟩ := hit_some h
      exact absurd hfe (hne f (List.mem_of_getElem? hf))
  refine ⟨ascN_join (ha.sublist (List.take_sublist _ _)) (ha.sublist (List.drop_sublist _ _)) (fun x hx => posN_lt hx) (miss_drop ha hh), fun f => ?_⟩
  unfold insN
  rw [List.mem_append, List.mem_cons, mem_split out (posN out e.1) f]
  constructor
  · rintro (h1 | h1 | h1)
    · exact .inl (.inl h1)
    · exact .inr h1
    · exact .inl (.inr h1)
  · rintro ((h1 | h1) | h1)
    · exact .inl h1
    · exact .inr (.inr h1)
    · exact .inr (.inl h1)
theorem undone_ok : ∀ {Y : List PCh} {out : List PE}, AscN out → (namesC Y).Nodup → (∀ f ∈ out, f.1 ∉ namesC Y) → AscN (Y.foldl undone1 out) ∧ ∀ e, e ∈ Y.foldl undone1 out ↔ e ∈ out ∨ ∃ c ∈ Y, c.has = true ∧ e = (c.name, c.new)
  | [], out, ha, _, _ => ⟨ha, fun e => by simp⟩
  | c :: r, out, ha, hn, hne => by
    have hn' : c.name ∉ namesC r ∧ (namesC r).Nodup := by simpa [namesC] using hn
    have hne' : ∀ f ∈ out, f.1 ≠ c.name ∧ f.1 ∉ namesC r := fun f hf => by simpa [namesC] using hne f hf
    rw [List.foldl_cons]
    have h1 : AscN (undone1 out c) ∧ (∀ e, e ∈ undone1 out c ↔ e ∈ out ∨ (c.has = true ∧ e = (c.name, c.new))) := by
      unfold undone1
      split
      · rename_i hh
        obtain ⟨h1, h2⟩ := ins_ok (e := (c.name, c.new)) ha fun f hf => (hne' f hf).1
        exact ⟨h1, fun e => by rw [h2]; simp [hh]⟩
      · rename_i hh
        exact ⟨ha, fun e => by simp [hh]⟩
    obtain ⟨h3, h4⟩ := undone_ok (Y := r) h1.1 hn'.2 fun f hf => by
      rcases (h1.2 f).1 hf with h5 | ⟨_, h5⟩
      · exact (hne' f h5).2
      · rw [h5]; exact hn'.1
    refine ⟨h3, fun e => ?_⟩
    rw [h4, h1.2]
    constructor
    · rintro ((h5 | ⟨h5, h6⟩) | ⟨d, hd, h5, h6⟩)
      · exact .inl h5
      · exact .inr ⟨c, by simp, h5, h6⟩
      · exact .inr ⟨d, by simp [hd], h5, h6⟩
    · rintro (h5 | ⟨d, hd, h5, h6⟩)
      · exact .inl (.inl h5)
      · rcases List.mem_cons.1 hd with rfl | hd
        · exact .inl (.inr ⟨h5, h6⟩)
        · exact .inr ⟨d, hd, h5, h6⟩
theorem undone_eq {X : List PCh} {E : List PE} (ha : AscN E) (hn : (namesC X).Nodup) : undone (X.map revC) E = undoL X E := by
  have hnr : namesC (X.map revC) = namesC X := by simp [namesC, revC]
  have hk : ∀ e, e ∈ keepN (X.map revC) E ↔ e ∈ E ∧ e.1 ∉ namesC X := fun e => by
    unfold keepN
    rw [List.mem_filter]
    simp only [Bool.not_eq_true', List.any_eq_false, List.mem_map, decide_eq_true_eq, forall_exists_index, and_imp, forall_apply_eq_imp_iff₂, namesC]
    constructor
    · rintro ⟨h1, h2⟩
      exact ⟨h1, fun ⟨c, hc, he⟩ => h2 c hc he⟩
    · rintro ⟨h1, h2⟩
      exact ⟨h1, fun c hc he => h2 ⟨c, hc, he⟩⟩
  obtain ⟨h1, h2⟩ := undone_ok (Y := X.map revC) (out := keepN (X.map revC) E) (ha.sublist List.filter_sublist) (by rw [hnr]; exact hn) fun f hf => by rw [hnr]; exact ((hk f).1 hf).2
  obtain ⟨h3, h4⟩ := undoL_ok (X := X) ha hn
  refine ascN_ext h1 h3 fun e => ?_
  show e ∈ (X.map revC).foldl undone1 (keepN (X.map revC) E) ↔ _
  rw [h2, h4, hk]
  constructor
  · rintro (h5 | ⟨d, hd, h5, h6⟩)
    · exact .inl h5
    · obtain ⟨c, hc, rfl⟩ := List.mem_map.1 hd
      exact .inr ⟨c, hc, h5, h6⟩
  · rintro (h5 | ⟨c, hc, h5, h6⟩)
    · exact .inl h5
    · exact .inr ⟨revC c, List.mem_map_of_mem hc, h5, h6⟩

theorem chgF_names : ∀ (f : Nat) (a b : List PE), AscN a → AscN b → (chgF f a b).Pairwise (fun c d => ltN c.name d.name = true) ∧ (∀ c ∈ chgF f a b, (∃ e ∈ a, e.1 = c.name) ∨ ∃ e ∈ b, e.1 = c.name) ∧ ∀ c ∈ chgF f a b, c.had = true → (c.name, c.old) ∈ a
  | 0, _, _, _, _ => ⟨.nil, by simp [chgF], by simp [chgF]⟩
  | _ + 1, [], [], _, _ => ⟨.nil, by simp [chgF], by simp [chgF]⟩
  | f + 1, a :: r, [], ha, hb => by
    have ha' := List.pairwise_cons.1 ha
    obtain ⟨h1, h2, h3⟩ := chgF_names f r [] ha'.2 hb
    show (delC a :: chgF f r []).Pairwise _ ∧ (∀ c ∈ delC a :: chgF f r [], _) ∧ ∀ c ∈ delC a :: chgF f r [], _
    refine ⟨List.pairwise_cons.2 ⟨fun c hc => ?_, h1⟩, fun c hc => ?_, fun c hc hh => ?_⟩
    · rcases h2 c hc with ⟨e, he, hn⟩ | ⟨e, he, _⟩
      · rw [← hn]; exact ha'.1 e he
      · cases he
    · rcases List.mem_cons.1 hc with rfl | hc
      · exact .inl ⟨a, by simp, rfl⟩
      · rcases h2 c hc with ⟨e, he, hn⟩ | ⟨e, he, _⟩
        · exact .inl ⟨e, by simp [he], hn⟩
        · cases he
    · rcases List.mem_cons.1 hc with rfl | hc
      · exact List.mem_cons_self
      · exact List.mem_cons_of_mem _ (h3 c hc hh)
  | f + 1, [], b :: s, ha, hb => by
    have hb' := List.pairwise_cons.1 hb
    obtain ⟨h1, h2, h3⟩ := chgF_names f [] s ha hb'.2
    show (addC b :: chgF f [] s).Pairwise _ ∧ (∀ c ∈ addC b :: chgF f [] s, _) ∧ ∀ c ∈ addC b :: chgF f [] s, _
    refine ⟨List.pairwise_cons.2 ⟨fun c hc => ?_, h1⟩, fun c hc => ?_, fun c hc hh => ?_⟩
    · rcases h2 c hc with ⟨e, he, _⟩ | ⟨e, he, hn⟩
      · cases he
      · rw [← hn]; exact hb'.1 e he
    · rcases List.mem_cons.1 hc with rfl | hc
      · exact .inr ⟨b, by simp, rfl⟩
      · rcases h2 c hc with ⟨e, he, _⟩ | ⟨e, he, hn⟩
        · cases he
        · exact .inr ⟨e, by simp [he], hn⟩
    · rcases List.mem_cons.1 hc with rfl | hc
      · cases hh
      · exact h3 c hc hh
  | f + 1, a :: r, b :: s, ha, hb => by
    have ha' := List.pairwise_cons.1 ha
    have hb' := List.pairwise_cons.1 hb
    by_cases hab : blE a b = true
    · rw [chgF_a (.inr ⟨b, s, rfl, hab⟩)]
      obtain ⟨h1, h2, h3⟩ := chgF_names f r (b :: s) ha'.2 hb
      have hlt : ∀ e ∈ b :: s, ltN a.1 e.1 = true := fun e he => by
        rcases List.mem_cons.1 he with rfl | he
        · exact hab
        · exact ltN_trans hab (hb'.1 e he)
      refine ⟨List.pairwise_cons.2 ⟨fun c hc => ?_, h1⟩, fun c hc => ?_, fun c hc hh => ?_⟩
      · rcases h2 c hc with ⟨e, he, hn⟩ | ⟨e, he, hn⟩
        · rw [← hn]; exact ha'.1 e he
        · rw [← hn]; exact hlt e he
      · rcases List.mem_cons.1 hc with rfl | hc
        · exact .inl ⟨a, by simp, rfl⟩
        · rcases h2 c hc with ⟨e, he, hn⟩ | ⟨e, he, hn⟩
          · exact .inl ⟨e, by simp [he], hn⟩
          · exact .inr ⟨e, he, hn⟩
      · rcases List.mem_cons.1 hc with rfl | hc
        · exact List.mem_cons_self
        · exact List.mem_cons_of_mem _ (h3 c hc hh)
    · have hab' : blE a b = false := by simpa using hab
      by_cases hba : blE b a = true
      · rw [chgF_b (.inr ⟨a, r, rfl, hab', hba⟩)]
        obtain ⟨h1, h2, h3⟩ := chgF_names f (a :: r) s ha hb'.2
        have hlt : ∀ e ∈ a :: r, ltN b.1 e.1 = true := fun e he => by
          rcases List.mem_cons.1 he with rfl | he
          · exact hba
          · exact ltN_trans hba (ha'.1 e he)
        refine ⟨List.pairwise_cons.2 ⟨fun c hc => ?_, h1⟩, fun c hc => ?_, fun c hc hh => ?_⟩
        · rcases h2 c hc with ⟨e, he, hn⟩ | ⟨e, he, hn⟩
          · rw [← hn]; exact hlt e he
          · rw [← hn]; exact hb'.1 e he
        · rcases List.mem_cons.1 hc with rfl | hc
          · exact .inr ⟨b, by simp, rfl⟩
          · rcases h2 c hc with ⟨e, he, hn⟩ | ⟨e, he, hn⟩
            · exact .inl ⟨e, he, hn⟩
            · exact .inr ⟨e, by simp [he], hn⟩
        · rcases List.mem_cons.1 hc with rfl | hc
          · cases hh
          · exact h3 c hc hh
      · have hba' : blE b a = false := by simpa using hba
        rw [chgF_c hab' hba']
        obtain ⟨h1, h2, h3⟩ := chgF_names f r s ha'.2 hb'.2
        have hnab : a.1 = b.1 := by
          rcases Classical.em (a.1 = b.1) with h | h
          · exact h
          · have := ltN_of (a := a.1) (b := b.1) hab' h
            exact absurd this hba
        have hgt : ∀ c ∈ chgF f r s, ltN a.1 c.name = true := fun c hc => by
          rcases h2 c hc with ⟨e, he, hn⟩ | ⟨e, he, hn⟩
          · rw [← hn]; exact ha'.1 e he
          · rw [← hn, hnab]; exact hb'.1 e he
        have hin : ∀ c ∈ (if neE a b then [modC a b] else []), c = modC a b := fun c hc => by
          split at hc
          · simpa using hc
          · cases hc
        refine ⟨List.pairwise_append.2 ⟨by split <;> simp, h1, fun c hc d hd => by rw [hin c hc]; exact hgt d hd⟩, fun c hc => ?_, fun c hc hh => ?_⟩
        · rcases List.mem_append.1 hc with hc | hc
          · rw [hin c hc]; exact .inl ⟨a, by simp, rfl⟩
          · rcases h2 c hc with ⟨e, he, hn⟩ | ⟨e, he, hn⟩
            · exact .inl ⟨e, by simp [he], hn⟩
            · exact .inr ⟨e, by simp [he], hn⟩
        · rcases List.mem_append.1 hc with hc | hc
          · rw [hin c hc]; exact List.mem_cons_self
          · exact List.mem_cons_of_mem _ (h3 c hc hh)
theorem chg_nodup {a b : List PE} (ha : AscN a) (hb : AscN b) : (namesC (chgL a b)).Nodup := by
  unfold namesC List.Nodup
  rw [List.pairwise_map]
  exact (chgF_names _ a b ha hb).1.imp fun h => ltN_ne h

def undoB (b : PBk) (hd k : List Int) : List PE := undoL (chgB b k) (mapOfB b hd)
def sameB (b : PBk) (hd k : List Int) : Prop := ∀ c ∈ chgB b k, look (mapOfB b hd) c.name = look (mapOfB b k) c.name
instance (b : PBk) (hd k : List Int) : Decidable (sameB b hd k) := inferInstanceAs (Decidable (∀ c ∈ chgB b k, _))
def undoAns (b : PBk) (hd k : List Int) (note : ByteArray) : PBk × List Int × Int :=
  if openCode b [hd, k] = 0 then
    (if k ∈ ancB b hd ∧ sameB b hd k then (if (undoB b hd k).length ≤ 64 then comAns b [hd] (undoB b hd k) note else (noBk, zero32, 3)) else (noBk, zero32, 4))
  else (noBk, zero32, openCode b [hd, k])
theorem undoB_good {b : PBk} (hv : validB b) {hd k : List Int} (hh : hd ∈ keysB b) (hk : k ∈ keysB b) : AscN (undoB b hd k) ∧ ∀ e ∈ undoB b hd k, entGood e := by
  have h1 := mapOfB_ok hv hh
  have h2 := beforeB_ok hv hk
  have h3 := mapOfB_ok hv hk
  obtain ⟨h4, h5⟩ := undoL_ok (X := chgB b k) (ascN_of h1) (chg_nodup (ascN_of h2) (ascN_of h3))
  refine ⟨h4, fun e he => ?_⟩
  rcases (h5 e).1 he with ⟨h6, _⟩ | ⟨c, hc, hhad, rfl⟩
  · exact entGood_of h1 h6
  · exact entGood_of h2 ((chgF_names _ _ _ (ascN_of h2) (ascN_of h3)).2.2 c hc hhad)
theorem undoB_ok {b : PBk} (hv : validB b) {hd k : List Int} (hh : hd ∈ keysB b) (hk : k ∈ keysB b) : okE (undoB b hd k) ↔ (undoB b hd k).length ≤ 64 := ⟨fun h => h.2, fun h => okE_of (undoB_good hv hh hk).1 (undoB_good hv hh hk).2 h⟩
theorem undoB_eq {b : PBk} (hv : validB b) {hd k : List Int} (hh : hd ∈ keysB b) (hk : k ∈ keysB b) : undone ((chgB b k).map revC) (mapOfB b hd) = undoB b hd k :=
  undone_eq (ascN_of (mapOfB_ok hv hh)) (chg_nodup (ascN_of (beforeB_ok hv hk)) (ascN_of (mapOfB_ok hv hk)))
end Go.Proofs.YtaadgdbegpmlmaaGreat
