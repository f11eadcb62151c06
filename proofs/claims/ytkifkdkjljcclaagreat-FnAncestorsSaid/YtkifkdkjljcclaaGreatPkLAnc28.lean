/- Commits and books: their data and keys, which are valid, the ancestors. Plain. -/
import Derived.Test.YtkifkdkjljcclaaGreatPkLAnc24
import Derived.Test.YtkifkdkjljcclaaGreatPkLAnc25
import Derived.Test.YtkifkdkjljcclaaGreatPkLAnc27
namespace Go.Proofs.YtkifkdkjljcclaaGreat
open Go.Sx Go.RowKit

instance : Inhabited PC := ⟨⟨zero32, [], 0, ⟨#[]⟩⟩⟩
def cdata (c : PC) : List Int := (((c.ps.length : Int) + 1) % 256 :: (c.root ++ c.ps.flatten)) ++ (c.num % 256 :: strL c.note)
def ckey (c : PC) : List Int := hashL 7 (cdata c)
theorem cdata_ok {c : PC} (h : c.ok) : bytesOk (cdata c) := by
  intro b hb
  unfold cdata at hb
  simp only [List.mem_append, List.mem_cons, List.mem_flatten] at hb
  rcases hb with (rfl | hb | ⟨k, hk, hb⟩) | rfl | hb
  · omega
  · exact h.1.2 b hb
  · exact (h.2 k hk).2 b hb
  · omega
  · exact strL_ok _ b hb
theorem flatten_len {ks : List (List Int)} (h : ∀ k ∈ ks, keyOk k) : ks.flatten.length = 32 * ks.length := flat_len h
theorem cdata_len {c : PC} (h : c.ok) : (cdata c).length = 34 + 32 * c.ps.length + c.note.size := by
  unfold cdata
  simp only [List.length_append, List.length_cons, flatten_len h.2, h.1.1, strL_len]
  omega
theorem ckey_ok (c : PC) : keyOk (ckey c) := PB.key_ok ⟨7, cdata c⟩

def adjK (ks : List (List Int)) : Prop := ∀ j, j + 1 < ks.length → ltL (ks.getD j []) (ks.getD (j + 1) [])
instance (ks : List (List Int)) : Decidable (adjK ks) := decidable_of_iff (∀ j, j < ks.length - 1 → ltL (ks.getD j []) (ks.getD (j + 1) [])) ⟨fun h j hj => h j (by omega), fun h j hj => h j (by omega)⟩
theorem adj_of_asc {ks : List (List Int)} (h : Asc ks) : adjK ks := fun j hj => by
  have := List.pairwise_iff_getElem.1 h j (j + 1) (by omega) hj (by omega)
  have e1 : ks.getD j [] = ks[j] := by simp [List.getD, show j < ks.length by omega]
  have e2 : ks.getD (j + 1) [] = ks[j + 1] := by simp [List.getD, hj]
  rw [e1, e2]
  exact this
def okC (c : PC) : Prop := adjK c.ps ∧ c.ps.length ≤ 3 ∧ (0 ≤ c.num ∧ c.num ≤ 40) ∧ c.note.size ≤ 64
instance (c : PC) : Decidable (okC c) := inferInstanceAs (Decidable (_ ∧ _ ∧ _ ∧ _))

def keysC (X : List PC) : List (List Int) := X.map ckey
theorem keysC_len (X : List PC) : (keysC X).length = X.length := by simp [keysC]
theorem keysC_ok (X : List PC) : ∀ k ∈ keysC X, keyOk k := fun k hk => by
  obtain ⟨c, _, rfl⟩ := List.mem_map.1 hk
  exact ckey_ok c
theorem keysC_snoc (X : List PC) (c : PC) : keysC (X ++ [c]) = keysC X ++ [ckey c] := by simp [keysC]
def ixK (ks : List (List Int)) (k : List Int) : Nat := ks.findIdx fun x => decide (x = k)
theorem ixK_lt {ks : List (List Int)} {k : List Int} (h : k ∈ ks) : ixK ks k < ks.length := List.findIdx_lt_length_of_exists ⟨k, h, by simp⟩
theorem ixK_get {ks : List (List Int)} {k : List Int} (h : k ∈ ks) : ks[ixK ks k]? = some k := by
  have hl := ixK_lt h
  have := List.findIdx_getElem (p := fun x => decide (x = k)) (w := hl)
  rw [List.getElem?_eq_getElem hl]
  congr 1
  exact of_decide_eq_true this
theorem ixK_append {ks r : List (List Int)} {k : List Int} (h : k ∈ ks) : ixK (ks ++ r) k = ixK ks k := by
  unfold ixK
  rw [List.findIdx_append, if_pos]
  exact ixK_lt h
theorem ixK_of {ks : List (List Int)} (hn : ks.Nodup) {k : List Int} {i : Nat} (h : ks[i]? = some k) : ixK ks k = i := by
  have hm : k ∈ ks := List.mem_of_getElem? h
  have h1 := ixK_get hm
  have hi : i < ks.length := (List.getElem?_eq_some_iff.1 h).1
  exact (List.getElem?_inj (ixK_lt hm) hn).1 (h1.trans h.symm)
def cAt (X : List PC) (ks : List (List Int)) (k : List Int) : PC := X.getD (ixK ks k) default
def numC (X : List PC) (ks : List (List Int)) (ps : List (List Int)) : Int := ps.foldl (fun o k => max o ((cAt X ks k).num + 1)) 0
def rootOf (es : List PE) : List Int := trKey (treeF (es.length + 1) es)
def mapAt (b : PBk) (i : Nat) : List PE := b.maps.getD i []
def comAt (b : PBk) (i : Nat) : PC := b.cms.getD i default
def goodC (b : PBk) (i : Nat) : Prop := okC (comAt b i) ∧ okE (mapAt b i) ∧ (comAt b i).root = rootOf (mapAt b i) ∧ (∀ k ∈ (comAt b i).ps, k ∈ (keysC b.cms).take i) ∧ (comAt b i).num = numC b.cms ((keysC b.cms).take i) (comAt b i).ps ∧ ckey (comAt b i) ∉ (keysC b.cms).take i
instance (b : PBk) (i : Nat) : Decidable (goodC b i) := inferInstanceAs (Decidable (_ ∧ _ ∧ _ ∧ _ ∧ _ ∧ _))
def validB (b : PBk) : Prop := (b.cms.length ≤ 40 ∧ b.maps.length = b.cms.length) ∧ ∀ i, i < b.cms.length → goodC b i
instance (b : PBk) : Decidable (validB b) := inferInstanceAs (Decidable (_ ∧ _))
def keysB (b : PBk) : List (List Int) := keysC b.cms
theorem keysB_len (b : PBk) : (keysB b).length = b.cms.length := keysC_len _
theorem keysB_ok (b : PBk) : ∀ k ∈ keysB b, keyOk k := keysC_ok _
theorem keysB_get {b : PBk} {i : Nat} (h : i < b.cms.length) : (keysB b)[i]? = some (ckey (comAt b i)) := by
  unfold keysB keysC comAt
  rw [List.getElem?_map, List.getElem?_eq_getElem h]
  simp [List.getD, h]
theorem keysB_nodup {b : PBk} (h : validB b) : (keysB b).Nodup := by
  have : ∀ i, i ≤ b.cms.length → ((keysB b).take i).Nodup := by
    intro i
    induction i with
    | zero => simp
    | succ i ih =>
      intro hi
      rw [take_succ_get (keysB_get (by omega)), List.nodup_append]
      refine ⟨ih (by omega), by simp, fun x hx y hy => ?_⟩
      rw [List.mem_singleton.1 hy]
      intro he
      subst he
      exact (h.2 i (by omega)).2.2.2.2.2 hx
  have := this b.cms.length (Nat.le_refl _)
  rwa [List.take_of_length_le (by rw [keysB_len]; exact Nat.le_refl _)] at this
def parsB (b : PBk) (k : List Int) : List (List Int) := (cAt b.cms (keysB b) k).ps
theorem pars_mem {b : PBk} (h : validB b) {k : List Int} (hk : k ∈ keysB b) {p : List Int} (hp : p ∈ parsB b k) : p ∈ keysB b ∧ ixK (keysB b) p < ixK (keysB b) k := by
  have hl := ixK_lt hk
  rw [keysB_len] at hl
  have hg := (h.2 _ hl).2.2.2.1 p hp
  have hm := List.mem_of_mem_take hg
  refine ⟨hm, ?_⟩
  have h1 := ixK_lt hg
  have h2 := ixK_append (r := (keysC b.cms).drop (ixK (keysB b) k)) hg
  rw [List.take_append_drop] at h2
  rw [List.length_take] at h1
  show ixK (keysC b.cms) p < _
  rw [h2]
  exact Nat.lt_of_lt_of_le h1 (Nat.min_le_left _ _)

inductive AncOf (b : PBk) (k : List Int) : List Int → Prop
  | self : AncOf b k k
  | up {y p : List Int} : AncOf b k y → p ∈ parsB b y → AncOf b k p
theorem AncOf.mem {b : PBk} (hv : validB b) {k x : List Int} (hk : k ∈ keysB b) (h : AncOf b k x) : x ∈ keysB b := by
  induction h with
  | self => exact hk
  | up _ hp ih => exact (pars_mem hv ih hp).1
theorem AncOf.trans {b : PBk} {k y x : List Int} (h : AncOf b k y) (g : AncOf b y x) : AncOf b k x := by
  induction g with
  | self => exact h
  | up _ hp ih => exact .up ih hp
structure AncW (b : PBk) (k : List Int) (i : Nat) (s : List (List Int)) : Prop where
  nodup : s.Nodup
  anc : ∀ x ∈ s, AncOf b k x
  has : k ∈ s
  done : ∀ x ∈ s.take i, ∀ p ∈ parsB b x, p ∈ s
  le : i ≤ s.length
theorem AncW.first (b : PBk) (k : List Int) : AncW b k 0 [k] := ⟨by simp, fun x hx => by rw [List.mem_singleton.1 hx]; exact .self, by simp, by simp, by simp⟩
theorem AncW.next {b : PBk} {k y : List Int} {i : Nat} {s : List (List Int)} (h : AncW b k i s) (hk : s[i]? = some y) : AncW b k (i + 1) ((parsB b y).foldl meetK s) := by
  obtain ⟨t, ht⟩ := meets_grow (parsB b y) s
  have hi := (List.getElem?_eq_some_iff.1 hk).1
  refine ⟨meets_nodup _ h.nodup, fun x hx => ?_, (meets_mem _ _ _).2 (.inl h.has), fun x hx l hl => ?_, by rw [ht, List.length_append]; omega⟩
  · rcases (meets_mem _ _ _).1 hx with hx | hx
    · exact h.anc x hx
    · exact .up (h.anc y (List.mem_of_getElem? hk)) hx
  · rw [ht, List.take_append_of_le_length (by omega), take_succ_get hk] at hx
    refine (meets_mem _ _ _).2 ?_
    rcases List.mem_append.1 hx with hx | hx
    · exact .inl (h.done x hx l hl)
    · rw [List.mem_singleton.1 hx] at hl
      exact .inr hl
theorem AncW.all {b : PBk} {k : List Int} {i : Nat} {s : List (List Int)} (h : AncW b k i s) (hi : s.length ≤ i) (x : List Int) : x ∈ s ↔ AncOf b k x := by
  refine ⟨h.anc x, fun hx => ?_⟩
  have hd := h.done
  rw [List.take_of_length_le hi] at hd
  induction hx with
  | self => exact h.has
  | up _ hp ih => exact hd _ ih _ hp
theorem AncW.len {b : PBk} (hv : validB b) {k : List Int} (hk : k ∈ keysB b) {i : Nat} {s : List (List Int)} (h : AncW b k i s) : s.length ≤ 40 := by
  have h1 := nodup_le h.nodup fun x hx => (h.anc x hx).mem hv hk
  rw [keysB_len] at h1
  have := hv.1.1
  omega
def ancGo (b : PBk) : Nat → List (List Int) → Nat → List (List Int)
  | 0, out, _ => out
  | f + 1, out, i => if i < out.length then ancGo b f ((parsB b (out.getD i [])).foldl meetK out) (i + 1) else out
theorem ancGo_ok {b : PBk} (hv : validB b) {k : List Int} (hk : k ∈ keysB b) : ∀ (f : Nat) (s : List (List Int)) (i : Nat), AncW b k i s → 40 < f + i → ∃ i', AncW b k i' (ancGo b f s i) ∧ (ancGo b f s i).length ≤ i'
  | 0, s, i, h, hf => by have := h.len hv hk; have := h.le; omega
  | f + 1, s, i, h, hf => by
    unfold ancGo
    split
    · rename_i hi
      have he : s[i]? = some (s.getD i []) := by simp [List.getD, hi]
      exact ancGo_ok hv hk f _ _ (h.next he) (by omega)
    · exact ⟨i, h, by omega⟩
def ancB (b : PBk) (k : List Int) : List (List Int) := sortK (ancGo b 41 [k] 0)
theorem ancB_mem {b : PBk} (hv : validB b) {k : List Int} (hk : k ∈ keysB b) (x : List Int) : x ∈ ancB b k ↔ AncOf b k x := by
  obtain ⟨i', h1, h2⟩ := ancGo_ok hv hk 41 [k] 0 (AncW.first b k) (by omega)
  unfold ancB
  rw [sortK_mem]
  exact h1.all h2 x
theorem ancB_asc (b : PBk) (k : List Int) : Asc (ancB b k) := sortK_asc _
theorem ancB_of {b : PBk} (hv : validB b) {k : List Int} (hk : k ∈ keysB b) {out : List (List Int)} (ha : Asc out) (hm : ∀ x, x ∈ out ↔ AncOf b k x) : out = ancB b k :=
  asc_ext ha (ancB_asc b k) fun x => by rw [hm, ancB_mem hv hk]
theorem ancB_sub {b : PBk} (hv : validB b) {k : List Int} (hk : k ∈ keysB b) {x : List Int} (hx : x ∈ ancB b k) : x ∈ keysB b := ((ancB_mem hv hk x).1 hx).mem hv hk
theorem ancB_len {b : PBk} (hv : validB b) {k : List Int} (hk : k ∈ keysB b) : (ancB b k).length ≤ 40 := by
  have h1 := nodup_le (ancB_asc b k).nodup fun x hx => ancB_sub hv hk hx
  rw [keysB_len] at h1
  have := hv.1.1
  omega

def basesB (b : PBk) (a k : List Int) : List (List Int) :=
  let both := (ancB b a).filter fun x => decide (x ∈ ancB b k)
  both.filter fun x => !both.any fun y => decide (x ≠ y) && decide (x ∈ ancB b y)
def headsB (b : PBk) : List (List Int) := sortK ((keysB b).filter fun k => !b.cms.any fun c => decide (k ∈ c.ps))
def openCode (b : PBk) (ks : List (List Int)) : Int := if validB b then (if ∀ k ∈ ks, k ∈ keysB b then 0 else 6) else 1
def headsAns (b : PBk) : List (List Int) × Int := if openCode b [] = 0 then (headsB b, 0) else ([], openCode b [])
def ancAns (b : PBk) (k : List Int) : List (List Int) × Int := if openCode b [k] = 0 then (ancB b k, 0) else ([], openCode b [k])
def isAncAns (b : PBk) (a k : List Int) : Bool × Int := if openCode b [a, k] = 0 then (decide (a ∈ ancB b k), 0) else (false, openCode b [a, k])
def basesAns (b : PBk) (a k : List Int) : List (List Int) × Int := if openCode b [a, k] = 0 then (basesB b a k, 0) else ([], openCode b [a, k])
end Go.Proofs.YtkifkdkjljcclaaGreat
