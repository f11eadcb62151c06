/- What is reachable: plain. What is reachable: the program. What is reachable: the reference. The reference's sorting of keys. Commits and books: their data and keys, which are valid, the ancestors. Plain. History: the program's ledger: found keys, numbers, made of a book, opened. History: books, indices, ancestors: the reference. History: AncestorsOf, IsAncestor: both sides. Names in order; entries set. Plain. History: the shortest ways: plain; a key is laid into an own map, new or not. History: WayTo: the program. History: WayTo: the reference's walk. History: HeadsOf: both sides. The laws' own source: strings, maps, books. -/
import Derived.ChangeMaps5
import Derived.Test.YtkifkdkjljcclaaGreatPkLTor21
import Derived.Test.YtkifkdkjljcclaaGreatPkLTor22
import Derived.Test.YtkifkdkjljcclaaGreatPkLTor23
import Derived.Test.YtkifkdkjljcclaaGreatPkLTor17
import Derived.Test.YtkifkdkjljcclaaGreatPkLTor20
namespace Go.Proofs.YtkifkdkjljcclaaGreat
open Go.Sx Go.RowKit

def meetK (s : List (List Int)) (k : List Int) : List (List Int) := if k ∈ s then s else s ++ [k]
theorem meetK_mem (s : List (List Int)) (k x : List Int) : x ∈ meetK s k ↔ x ∈ s ∨ x = k := by
  unfold meetK
  split
  · constructor
    · exact Or.inl
    · rintro (h | rfl) <;> assumption
  · simp
theorem meetK_nodup {s : List (List Int)} (h : s.Nodup) (k : List Int) : (meetK s k).Nodup := by
  unfold meetK
  split
  · exact h
  · rename_i hk
    exact List.nodup_append.2 ⟨h, by simp, fun a ha b hb => by rw [List.mem_singleton.1 hb]; exact fun e => hk (e ▸ ha)⟩
theorem meets_mem (l : List (List Int)) (x : List Int) : ∀ s, x ∈ l.foldl meetK s ↔ x ∈ s ∨ x ∈ l := by
  induction l with
  | nil => simp
  | cons k r ih => intro s; rw [List.foldl_cons, ih, meetK_mem, List.mem_cons]; exact or_assoc
theorem meets_nodup (l : List (List Int)) : ∀ {s : List (List Int)}, s.Nodup → (l.foldl meetK s).Nodup := by
  induction l with
  | nil => exact fun h => h
  | cons k r ih => exact fun h => ih (meetK_nodup h k)
def nextOf (B : List PB) (k : List Int) : List (List Int) := if k ∈ keysOf B then links (blobAt B k) else []
theorem nextOf_sub (B : List PB) (k : List Int) : ∀ x ∈ nextOf B k, x ∈ B.flatMap links := by
  intro x hx
  unfold nextOf at hx
  split at hx
  · unfold blobAt at hx
    rcases Nat.lt_or_ge (posK (keysOf B) k) B.length with h | h
    · refine List.mem_flatMap.2 ⟨_, ?_, hx⟩
      simp only [List.getD, List.getElem?_eq_getElem h, Option.getD_some]
      exact List.getElem_mem _
    · simp only [List.getD, List.getElem?_eq_none h, Option.getD_none] at hx
      cases hx
  · cases hx
inductive GetsTo (B : List PB) (roots : List (List Int)) : List Int → Prop
  | root {k : List Int} : k ∈ roots → GetsTo B roots k
  | link {k l : List Int} : GetsTo B roots k → l ∈ nextOf B k → GetsTo B roots l
theorem GetsTo.sub {B : List PB} {roots : List (List Int)} {k : List Int} (h : GetsTo B roots k) : k ∈ roots ++ B.flatMap links := by
  cases h with
  | root h => exact List.mem_append_left _ h
  | link _ h => exact List.mem_append_right _ (nextOf_sub B _ _ h)

structure WalkOk (B : List PB) (roots : List (List Int)) (i : Nat) (s : List (List Int)) : Prop where
  nodup : s.Nodup
  reach : ∀ k ∈ s, GetsTo B roots k
  roots : ∀ k ∈ roots, k ∈ s
  done : ∀ k ∈ s.take i, ∀ l ∈ nextOf B k, l ∈ s
  le : i ≤ s.length
theorem WalkOk.first (B : List PB) (roots : List (List Int)) : WalkOk B roots 0 (roots.foldl meetK []) :=
  ⟨meets_nodup _ List.nodup_nil, fun k hk => .root (by simpa using (meets_mem roots k []).1 hk), fun k hk => (meets_mem roots k []).2 (.inr hk), by simp, Nat.zero_le _⟩
theorem WalkOk.len {B : List PB} {roots s : List (List Int)} {i : Nat} (h : WalkOk B roots i s) : s.length ≤ roots.length + (B.flatMap links).length := by
  have := nodup_le h.nodup fun x hx => (h.reach x hx).sub
  rwa [List.length_append] at this
theorem WalkOk.all {B : List PB} {roots s : List (List Int)} {i : Nat} (h : WalkOk B roots i s) (hi : s.length ≤ i) (k : List Int) : k ∈ s ↔ GetsTo B roots k := by
  refine ⟨h.reach k, fun hk => ?_⟩
  have hd := h.done
  rw [List.take_of_length_le hi] at hd
  induction hk with
  | root hk => exact h.roots _ hk
  | link _ hl ih => exact hd _ ih _ hl

structure ListOk (B : List PB) (roots : List (List Int)) (i : Nat) (s D : List (List Int)) : Prop where
  is : s = roots ++ D.flatMap (nextOf B)
  nodup : D.Nodup
  inB : ∀ k ∈ D, k ∈ keysOf B
  sub : ∀ k ∈ D, k ∈ s.take i
  found : ∀ k ∈ s.take i, k ∈ keysOf B → k ∈ D
  reach : ∀ k ∈ s, GetsTo B roots k
  le : i ≤ s.length
theorem ListOk.first (B : List PB) (roots : List (List Int)) : ListOk B roots 0 roots [] := ⟨by simp, List.nodup_nil, by simp, by simp, by simp, fun k hk => .root hk, Nat.zero_le _⟩
theorem ListOk.skip {B : List PB} {roots s D : List (List Int)} {i : Nat} (h : ListOk B roots i s D) {k : List Int} (hk : s[i]? = some k) (hD : k ∈ keysOf B → k ∈ D) : ListOk B roots (i + 1) s D := by
  have hi := (List.getElem?_eq_some_iff.1 hk).1
  refine ⟨h.is, h.nodup, h.inB, fun x hx => ?_, fun x hx hB => ?_, h.reach, by omega⟩
  · rw [take_succ_get hk]
    exact List.mem_append_left _ (h.sub x hx)
  · rw [take_succ_get hk] at hx
    rcases List.mem_append.1 hx with hx | hx
    · exact h.found x hx hB
    · rw [List.mem_singleton.1 hx] at hB ⊢
      exact hD hB
theorem flat_le {α β : Type} {f : α → List β} {n : Nat} : ∀ {l : List α}, (∀ x ∈ l, (f x).length ≤ n) → (l.flatMap f).length ≤ l.length * n
  | [], _ => by simp
  | x :: l, h => by
    have h1 := h x (by simp)
    have h2 := flat_le (l := l) fun y hy => h y (by simp [hy])
    rw [List.flatMap_cons, List.length_append, List.length_cons, Nat.add_mul]
    omega
theorem blobAt_len {B : List PB} (hd : ∀ b ∈ B, b.data.length ≤ 1024) (k : List Int) : (blobAt B k).data.length ≤ 1024 := by
  unfold blobAt
  rcases Nat.lt_or_ge (posK (keysOf B) k) B.length with h | h
  · simp only [List.getD, List.getElem?_eq_getElem h, Option.getD_some]
    exact hd _ (List.getElem_mem _)
  · simp [List.getD, List.getElem?_eq_none h]
theorem nextOf_len {B : List PB} (hd : ∀ b ∈ B, b.data.length ≤ 1024) (k : List Int) : (nextOf B k).length ≤ 1024 := by
  unfold nextOf
  split
  · exact Nat.le_trans (links_len _) (blobAt_len hd k)
  · simp
theorem ListOk.len {B : List PB} {roots s D : List (List Int)} {i : Nat} (h : ListOk B roots i s D) (hd : ∀ b ∈ B, b.data.length ≤ 1024) : s.length ≤ roots.length + B.length * 1024 := by
  have h1 := nodup_le h.nodup h.inB
  rw [keysOf_len] at h1
  have h2 := flat_le (l := D) (f := nextOf B) (n := 1024) fun x _ => nextOf_len hd x
  have := Nat.mul_le_mul_right 1024 h1
  have e := congrArg List.length h.is
  rw [List.length_append] at e
  omega
theorem ListOk.all {B : List PB} {roots s D : List (List Int)} {i : Nat} (h : ListOk B roots i s D) (hi : s.length ≤ i) (k : List Int) : k ∈ s ↔ GetsTo B roots k := by
  refine ⟨h.reach k, fun hk => ?_⟩
  have hd := h.found
  rw [List.take_of_length_le hi] at hd
  induction hk with
  | root hk => rw [h.is]; exact List.mem_append_left _ hk
  | @link k l _ hl ih =>
    have hB : k ∈ keysOf B := by
      unfold nextOf at hl
      split at hl
      · assumption
      · cases hl
    rw [h.is]
    exact List.mem_append_right _ (List.mem_flatMap.2 ⟨k, hd k ih hB, hl⟩)
end Go.Proofs.YtkifkdkjljcclaaGreat

namespace Go.Proofs.YtkifkdkjljcclaaGreat
open Go.Sx Go.RowKit

def yesOf (s : List (List Int)) : List (List Int × Value) := s.map fun k => (k, .bool true)
abbrev seenB (b5 b6 rm : Nat) (so : Sl) : List Blk := [(b6, #[.map (some rm)], ty_map_impl_Key_bool), (b5, #[.slice so.a so.n so.c], ty_sl_impl_Key)]
def Seen (w0 w : World) (b5 b6 rm : Nat) (ls : List Blk) (s : List (List Int)) : Prop :=
  ∃ (so : Sl) (Lo : List Blk) (o : Obj), At w0 w (seenB b5 b6 rm so ++ (Lo ++ ls)) ∧ OwnS ty_impl_Key 32 so (s.flatMap u8s) Lo ∧ so.n = s.length ∧ w.heap[rm]? = some o ∧ MapIs o (yesOf s)

theorem Seen.at_ {w0 w : World} {b5 b6 rm : Nat} {ls : List Blk} {s : List (List Int)} (h : Seen w0 w b5 b6 rm ls s) : ∃ L, At w0 w (L ++ ls) := by
  obtain ⟨so, Lo, o, h, _⟩ := h
  exact ⟨_, (List.append_assoc _ _ _).symm ▸ h⟩

end Go.Proofs.YtkifkdkjljcclaaGreat

namespace Go.Sx
end Go.Sx
namespace Go.Proofs.YtkifkdkjljcclaaGreat
open Go.Sx Go.RowKit

end Go.Proofs.YtkifkdkjljcclaaGreat

namespace Go.Proofs.YtkifkdkjljcclaaGreat
open Go.Sx Go.RowKit

end Go.Proofs.YtkifkdkjljcclaaGreat

namespace Go.Proofs.YtkifkdkjljcclaaGreat
open Go.Sx Go.RowKit

instance : Inhabited PC := ⟨⟨zero32, [], 0, ⟨#[]⟩⟩⟩
def cdata (c : PC) : List Int := (((c.ps.length : Int) + 1) % 256 :: (c.root ++ c.ps.flatten)) ++ (c.num % 256 :: strL c.note)
def ckey (c : PC) : List Int := hashL 7 (cdata c)
theorem ckey_ok (c : PC) : keyOk (ckey c) := PB.key_ok ⟨7, cdata c⟩

def adjK (ks : List (List Int)) : Prop := ∀ j, j + 1 < ks.length → ltL (ks.getD j []) (ks.getD (j + 1) [])
instance (ks : List (List Int)) : Decidable (adjK ks) := decidable_of_iff (∀ j, j < ks.length - 1 → ltL (ks.getD j []) (ks.getD (j + 1) [])) ⟨fun h j hj => h j (by omega), fun h j hj => h j (by omega)⟩
def okC (c : PC) : Prop := adjK c.ps ∧ c.ps.length ≤ 3 ∧ (0 ≤ c.num ∧ c.num ≤ 40) ∧ c.note.size ≤ 64
instance (c : PC) : Decidable (okC c) := inferInstanceAs (Decidable (_ ∧ _ ∧ _ ∧ _))

def keysC (X : List PC) : List (List Int) := X.map ckey
theorem keysC_len (X : List PC) : (keysC X).length = X.length := by simp [keysC]
theorem keysC_ok (X : List PC) : ∀ k ∈ keysC X, keyOk k := fun k hk => by
  obtain ⟨c, _, rfl⟩ := List.mem_map.1 hk
  exact ckey_ok c
def ixK (ks : List (List Int)) (k : List Int) : Nat := ks.findIdx fun x => decide (x = k)
theorem ixK_lt {ks : List (List Int)} {k : List Int} (h : k ∈ ks) : ixK ks k < ks.length := List.findIdx_lt_length_of_exists ⟨k, h, by simp⟩
theorem ixK_get {ks : List (List Int)} {k : List Int} (h : k ∈ ks) : ks[ixK ks k]? = some k := by
  have hl := ixK_lt h
  have := List.findIdx_getElem (p := fun x => decide (x = k)) (w := hl)
  rw [List.getElem?_eq_getElem hl]
  congr 1
  exact of_decide_eq_true this
theorem ixK_append {ks r : List (List Int)} {k : List Int} (h : k ∈ ks) : ixK (ks ++ r) k = ixK ks k := by
  unfold ixK
  rw [List.findIdx_append, if_pos]
  exact ixK_lt h
def cAt (X : List PC) (ks : List (List Int)) (k : List Int) : PC := X.getD (ixK ks k) default
def numC (X : List PC) (ks : List (List Int)) (ps : List (List Int)) : Int := ps.foldl (fun o k => max o ((cAt X ks k).num + 1)) 0
def rootOf (es : List PE) : List Int := trKey (treeF (es.length + 1) es)
def mapAt (b : PBk) (i : Nat) : List PE := b.maps.getD i []
def comAt (b : PBk) (i : Nat) : PC := b.cms.getD i default
def goodC (b : PBk) (i : Nat) : Prop := okC (comAt b i) ∧ okE (mapAt b i) ∧ (comAt b i).root = rootOf (mapAt b i) ∧ (∀ k ∈ (comAt b i).ps, k ∈ (keysC b.cms).take i) ∧ (comAt b i).num = numC b.cms ((keysC b.cms).take i) (comAt b i).ps ∧ ckey (comAt b i) ∉ (keysC b.cms).take i
instance (b : PBk) (i : Nat) : Decidable (goodC b i) := inferInstanceAs (Decidable (_ ∧ _ ∧ _ ∧ _ ∧ _ ∧ _))
def validB (b : PBk) : Prop := (b.cms.length ≤ 40 ∧ b.maps.length = b.cms.length) ∧ ∀ i, i < b.cms.length → goodC b i
instance (b : PBk) : Decidable (validB b) := inferInstanceAs (Decidable (_ ∧ _))
def keysB (b : PBk) : List (List Int) := keysC b.cms
theorem keysB_len (b : PBk) : (keysB b).length = b.cms.length := keysC_len _
theorem keysB_ok (b : PBk) : ∀ k ∈ keysB b, keyOk k := keysC_ok _
def parsB (b : PBk) (k : List Int) : List (List Int) := (cAt b.cms (keysB b) k).ps
theorem pars_mem {b : PBk} (h : validB b) {k : List Int} (hk : k ∈ keysB b) {p : List Int} (hp : p ∈ parsB b k) : p ∈ keysB b ∧ ixK (keysB b) p < ixK (keysB b) k := by
  have hl := ixK_lt hk
  rw [keysB_len] at hl
  have hg := (h.2 _ hl).2.2.2.1 p hp
  have hm := List.mem_of_mem_take hg
  refine ⟨hm, ?_⟩
  have h1 := ixK_lt hg
  have h2 := ixK_append (r := (keysC b.cms).drop (ixK (keysB b) k)) hg
  rw [List.take_append_drop] at h2
  rw [List.length_take] at h1
  show ixK (keysC b.cms) p < _
  rw [h2]
  exact Nat.lt_of_lt_of_le h1 (Nat.min_le_left _ _)

inductive AncOf (b : PBk) (k : List Int) : List Int → Prop
  | self : AncOf b k k
  | up {y p : List Int} : AncOf b k y → p ∈ parsB b y → AncOf b k p
theorem AncOf.mem {b : PBk} (hv : validB b) {k x : List Int} (hk : k ∈ keysB b) (h : AncOf b k x) : x ∈ keysB b := by
  induction h with
  | self => exact hk
  | up _ hp ih => exact (pars_mem hv ih hp).1
theorem AncOf.trans {b : PBk} {k y x : List Int} (h : AncOf b k y) (g : AncOf b y x) : AncOf b k x := by
  induction g with
  | self => exact h
  | up _ hp ih => exact .up ih hp
structure AncW (b : PBk) (k : List Int) (i : Nat) (s : List (List Int)) : Prop where
  nodup : s.Nodup
  anc : ∀ x ∈ s, AncOf b k x
  has : k ∈ s
  done : ∀ x ∈ s.take i, ∀ p ∈ parsB b x, p ∈ s
  le : i ≤ s.length
theorem AncW.first (b : PBk) (k : List Int) : AncW b k 0 [k] := ⟨by simp, fun x hx => by rw [List.mem_singleton.1 hx]; exact .self, by simp, by simp, by simp⟩
theorem AncW.all {b : PBk} {k : List Int} {i : Nat} {s : List (List Int)} (h : AncW b k i s) (hi : s.length ≤ i) (x : List Int) : x ∈ s ↔ AncOf b k x := by
  refine ⟨h.anc x, fun hx => ?_⟩
  have hd := h.done
  rw [List.take_of_length_le hi] at hd
  induction hx with
  | self => exact h.has
  | up _ hp ih => exact hd _ ih _ hp
theorem AncW.len {b : PBk} (hv : validB b) {k : List Int} (hk : k ∈ keysB b) {i : Nat} {s : List (List Int)} (h : AncW b k i s) : s.length ≤ 40 := by
  have h1 := nodup_le h.nodup fun x hx => (h.anc x hx).mem hv hk
  rw [keysB_len] at h1
  have := hv.1.1
  omega
end Go.Proofs.YtkifkdkjljcclaaGreat

namespace Go.Proofs.YtkifkdkjljcclaaGreat
open Go.Sx Go.RowKit

def ledC (s t sk : Sl) : Array Value := #[.slice s.a s.n s.c, .slice t.a t.n t.c, .slice sk.a sk.n sk.c]
structure LedR (w : World) (p : Addr) (rs : List CR) (ms : List ER) (K : List (List Int)) : Prop where
  ex : ∃ s t sk, ldOk w 1 (p.add 0) .slice s ∧ ldOk w 1 (p.add 1) .slice t ∧ ldOk w 1 (p.add 2) .slice sk ∧ CsR w s rs ∧ EssR w t ms ∧ KsR w sk K
theorem LedR.below {w w' : World} {p : Addr} {rs : List CR} {ms : List ER} {K : List (List Int)} (h : LedR w p rs ms K) (hb : Below w.heap.size w w') : LedR w' p rs ms K :=
  let ⟨s, t, sk, h1, h2, h3, h4, h5, h6⟩ := h.ex
  ⟨s, t, sk, ldOk_below hb h1, ldOk_below hb h2, ldOk_below hb h3, h4.below hb, h5.below hb, h6.below hb⟩
theorem LedR.at {w w' : World} {ls : List Blk} {p : Addr} {rs : List CR} {ms : List ER} {K : List (List Int)} (h : LedR w p rs ms K) (hA : At w w' ls) : LedR w' p rs ms K := h.below hA.below
theorem ledR_own {w0 w : World} {ls : List Blk} (hA : At w0 w ls) (i : Nat) {b : Nat} {s t sk : Sl} {ty : TypeId} (hl : ls[i]? = some (b, ledC s t sk, ty)) {rs : List CR} {ms : List ER} {K : List (List Int)} (h1 : CsR w s rs) (h2 : EssR w t ms) (h3 : KsR w sk K) : LedR w ⟨b, 0, none⟩ rs ms K :=
  ⟨s, t, sk, ldOk_own (sh := .slice) hA i hl 0 rfl (by simp [Sh.emb]), ldOk_own (sh := .slice) hA i hl 1 rfl (by simp [Sh.emb]), ldOk_own (sh := .slice) hA i hl 2 rfl (by simp [Sh.emb]), h1, h2, h3⟩

def LedO (bl : Nat) (b : PBk) (s t : Sl) (L : List Blk) : Prop := ∃ sk Lk, L = [(bl, ledC s t sk, ty_impl_ledger)] ++ Lk ∧ OwnS ty_impl_Key 32 sk ((keysB b).flatMap u8s) Lk
theorem LedO.rd {w0 w : World} {ls L : List Blk} {bl : Nat} {b : PBk} {s t : Sl} (h : LedO bl b s t L) (hA : At w0 w ls) (hs : L.Sublist ls) {rs : List CR} {ms : List ER} (h1 : CsR w s rs) (h2 : EssR w t ms) : LedR w ⟨bl, 0, none⟩ rs ms (keysB b) := by
  obtain ⟨sk, Lk, rfl, hO⟩ := h
  have hL : At w0 w ([(bl, ledC s t sk, ty_impl_ledger)] ++ Lk) := hA.take _ hs
  exact ledR_own hL 0 rfl h1 h2 (ownS_ks hO hA ((List.sublist_append_right _ _).trans hs) (keysB_ok b))
theorem r_rootEq {R : Value → World → Prop} {w : World} {x y : Operand} {a b : List Int} (ha : a.length = 32) (hb : b.length = 32) {k1 k2 : World → Prop} (h1 : a ≠ b → k1 w) (h2 : a = b → k2 w) :
    ((real Tryz.prog R).pur (eqB .neq ty_impl_Key x y (.agg (u8s a).toArray) (.agg (u8s b).toArray)) .bool fun y => cond y k1 k2 : World → Prop) w := by
  refine r_pur _ (fun w' => run_neq_key _ _ ha hb w') ?_
  by_cases h : a = b
  · rw [decide_eq_true h]; exact h2 h
  · rw [decide_eq_false h]; exact h1 h
end Go.Proofs.YtkifkdkjljcclaaGreat

namespace Go.Proofs.YtkifkdkjljcclaaGreat
open Go.Sx Go.RowKit

structure BkR (w : World) (p : Addr) (rs : List CR) (ms : List ER) : Prop where
  ex : ∃ s t, ldOk w 1 (p.add 0) .slice s ∧ ldOk w 1 (p.add 1) .slice t ∧ CsR w s rs ∧ EssR w t ms
theorem BkR.below {w w' : World} {p : Addr} {rs : List CR} {ms : List ER} (h : BkR w p rs ms) (hb : Below w.heap.size w w') : BkR w' p rs ms :=
  let ⟨s, t, h1, h2, h3, h4⟩ := h.ex
  ⟨s, t, ldOk_below hb h1, ldOk_below hb h2, h3.below hb, h4.below hb⟩
theorem BkR.at {w w' : World} {ls : List Blk} {p : Addr} {rs : List CR} {ms : List ER} (h : BkR w p rs ms) (hA : At w w' ls) : BkR w' p rs ms := h.below hA.below
end Go.Proofs.YtkifkdkjljcclaaGreat

namespace Go.Proofs.YtkifkdkjljcclaaGreat
open Go.Sx Go.RowKit

theorem KsR.one {w0 w : World} {ls : List Blk} {s : Sl} {k : List Int} (hS : SlO w0 w ls ty_impl_Key 32 s (Value.agg (u8s k).toArray).cells.toList) (hk : keyOk k) : KsR w s [k] := slO_ks (ks := [k]) (by simpa [Value.cells] using hS) (by simpa using hk)
end Go.Proofs.YtkifkdkjljcclaaGreat

namespace Go.Proofs.YtkifkdkjljcclaaGreat
open Go.Sx Go.RowKit

def ltN (a b : ByteArray) : Bool := Op.bytesLess a.toList b.toList
end Go.Proofs.YtkifkdkjljcclaaGreat

namespace Go.Sx
open Go.RowKit (Below)
variable {P : Program} {R : Value → World → Prop} {w0 w : World} {ls : List Blk}

end Go.Sx
namespace Go.Proofs.YtkifkdkjljcclaaGreat
open Go.Sx Go.RowKit

def setW (W : Nat → List (List Int)) (n : Nat) (x : List (List Int)) : Nat → List (List Int) := fun j => if j = n then x else W j
theorem AncOf.first {b : PBk} {k x : List Int} (h : AncOf b k x) : x = k ∨ ∃ p ∈ parsB b k, AncOf b p x := by
  induction h with
  | self => exact .inl rfl
  | @up y p hy hp ih =>
    rcases ih with rfl | ⟨q, hq, hqy⟩
    · exact .inr ⟨p, hp, .self⟩
    · exact .inr ⟨q, hq, .up hqy hp⟩
end Go.Proofs.YtkifkdkjljcclaaGreat

namespace Go.Proofs.YtkifkdkjljcclaaGreat
open Go.Sx Go.RowKit

def WaysM (K : List (List Int)) (W : Nat → List (List Int)) (m : List (List Int × Value)) (LW : List Blk) : Prop :=
  ∀ k ∈ K, (m.lookup k = none ∧ W (ixK K k) = []) ∨ ∃ s L, m.lookup k = some (.slice s.a s.n s.c) ∧ W (ixK K k) ≠ [] ∧ OwnKeyS s (W (ixK K k)) L ∧ L.Sublist LW
theorem ixK_inj {K : List (List Int)} {a k : List Int} (ha : a ∈ K) (hk : k ∈ K) (h : ixK K a = ixK K k) : a = k := by
  have h1 := ixK_get ha
  have h2 := ixK_get hk
  rw [h, h2] at h1
  exact (Option.some.inj h1).symm
theorem WaysM.put {K : List (List Int)} {W : Nat → List (List Int)} {m m' : List (List Int × Value)} {LW Ls : List Blk} {own : List Int} {x : List (List Int)} {s : Sl} (h : WaysM K W m LW) (ho : own ∈ K) (hs : OwnKeyS s x Ls) (hx : x ≠ []) (hm : ∀ k', m'.lookup k' = if k' = own then some (.slice s.a s.n s.c) else m.lookup k') : WaysM K (setW W (ixK K own) x) m' (Ls ++ LW) := by
  intro k hk
  rw [hm]
  by_cases hko : k = own
  · subst hko
    rw [if_pos rfl]
    have e : setW W (ixK K k) x (ixK K k) = x := by unfold setW; rw [if_pos rfl]
    rw [e]
    exact .inr ⟨s, Ls, rfl, hx, hs, List.sublist_append_left _ _⟩
  · rw [if_neg hko]
    have e : setW W (ixK K own) x (ixK K k) = W (ixK K k) := by unfold setW; rw [if_neg (fun hh => hko (ixK_inj hk ho hh))]
    rw [e]
    rcases h k hk with h1 | ⟨s', L, h1, h2, h3, h4⟩
    · exact .inl h1
    · exact .inr ⟨s', L, h1, h2, h3, h4.trans (List.sublist_append_right _ _)⟩
theorem OwnKeyS.n {s : Sl} {ks : List (List Int)} {L : List Blk} (h : OwnKeyS s ks L) : s.n = ks.length := by
  have := h.1.1
  rw [flatMap_length (z := 32) (fun x hx => by rw [u8s_len]; exact (h.2 x hx).1)] at this
  omega
theorem OwnKeyS.ks {w0 w : World} {ls L : List Blk} {s : Sl} {ks : List (List Int)} (h : OwnKeyS s ks L) (hA : At w0 w ls) (hs : L.Sublist ls) : KsR w s ks := ownS_ks h.1 hA hs h.2
end Go.Proofs.YtkifkdkjljcclaaGreat

namespace Go.Sx
end Go.Sx
namespace Go.Proofs.YtkifkdkjljcclaaGreat
open Go.Sx Go.RowKit

structure WaysA (W : Nat → List (List Int)) (vs : List Sl) (LW : List Blk) : Prop where
  own : ∀ j s, vs[j]? = some s → ∃ L, OwnKeyS s (W j) L ∧ L.Sublist LW
theorem WaysA.set {W : Nat → List (List Int)} {vs : List Sl} {LW Ls : List Blk} {x : List (List Int)} {s : Sl} (h : WaysA W vs LW) (n : Nat) (hs : OwnKeyS s x Ls) : WaysA (setW W n x) (vs.set n s) (Ls ++ LW) := ⟨fun j t ht => by
  rw [List.getElem?_set] at ht
  unfold setW
  by_cases hjn : n = j
  · rw [if_pos hjn] at ht
    rw [if_pos hjn.symm]
    split at ht
    · cases ht
      exact ⟨Ls, hs, List.sublist_append_left _ _⟩
    · cases ht
  · rw [if_neg hjn] at ht
    rw [if_neg (fun hh => hjn hh.symm)]
    obtain ⟨L, h1, h2⟩ := h.own j t ht
    exact ⟨L, h1, h2.trans (List.sublist_append_right _ _)⟩⟩
end Go.Proofs.YtkifkdkjljcclaaGreat

namespace Go.Proofs.YtkifkdkjljcclaaGreat
open Go.Sx Go.RowKit

theorem KsR.none (w : World) : KsR w ⟨Option.none, 0, 0⟩ [] := ⟨SlOf.nil (by omega), by simp⟩

end Go.Proofs.YtkifkdkjljcclaaGreat

namespace Go.Sx
open Go.RowKit (Below)
theorem run_bsS3 {P : Program} {t e by_ : Nat} (hT : SlT P t e 1 by_) (a b c : ByteArray) (w : World) :
    (Instr.buildSlice t 3 #[(0, (.string a)), (1, (.string b)), (2, (.string c))]).run P w = .ok (.slice (some ⟨w.heap.size, 0, none⟩) 3 3) (w.alloc (.cells #[Value.string a, Value.string b, Value.string c] e)) := by
  obtain ⟨i, zv, hi, hzv, hsz, hby, hzs⟩ := hT.ex
  have hf : ∀ cs : Array Value, cs.size = 3 * 1 → Instr.fill (fun i => some (i * 1, 1)) cs [(0, (.string a)), (1, (.string b)), (2, (.string c))] = some #[Value.string a, Value.string b, Value.string c] := by
    intro cs hcs
    obtain ⟨l⟩ := cs
    match l, hcs with
    | [_, _, _], _ => rfl
  simp [Instr.buildSlice, run_underlying hT.ut, sizeOf, typeInfo, hi, hsz, zeroValue, hzv, newRow]
  simp only [Nat.mul_one] at hf
  rw [hf _ (by simp [hzs])]
  simp
theorem r_bsS3 {P : Program} {R : Value → World → Prop} {w0 w : World} {ls : List Blk} {t e by_ : Nat} (hT : SlT P t e 1 by_) (hA : At w0 w ls) (a b c : ByteArray) {k : Sl → World → Prop} (h : ∀ s L w', At w0 w' (L ++ ls) → OwnS e 1 s (([a, b, c] : List ByteArray).map Value.string) L → k s w') :
    ((real P R).sem (Instr.buildSlice t 3 #[(0, (.string a)), (1, (.string b)), (2, (.string c))]) .slice k : World → Prop) w := by
  have hS := SlO.made (w0 := w0) hA (below_alloc w _) (heap_alloc_self w (.cells #[Value.string a, Value.string b, Value.string c] e)) (Nat.le_refl _) (xs := ([a, b, c] : List ByteArray).map Value.string) (z := 1) (n := 3) (c := 3) rfl (Nat.le_refl _) (by decide) rfl rfl
  obtain ⟨L, hO, hA'⟩ := hS.split
  exact ⟨⟨some ⟨w.heap.size, 0, none⟩, 3, 3⟩, _, run_bsS3 hT a b c w, h _ _ _ hA' hO⟩
end Go.Sx
namespace Go.Proofs.YtkifkdkjljcclaaGreat
open Go.Sx Go.RowKit

theorem T_sl_string : SlT Tryz.prog ty_sl_string ty_string 1 16 := slT_of (by kernel_rfl)
theorem c_text {w0 w : World} {b : Nat} {sd x : Sl} {d : List Int} {rest L : List Blk} {A : Int} {l : List ByteArray} (hS : Src w0 b sd rest A w) (hd : SlAt w0 sd 1 (u8s d)) (hb : bytesOk d) (hA : A ≤ 1099511627774) (hx : OwnS ty_string 1 x (l.map Value.string) L) (hs : L.Sublist rest) (hl : 1 ≤ l.length) (hl2 : l.length ≤ 1000) :
    Calls Tryz.prog n_ptr_spec_l00Src_text #[.pointer (some ⟨b, 0, none⟩), .slice x.a x.n x.c] w fun e w' => ∃ v, e = .returned v ∧ ∃ t, v = .string t ∧ t ∈ l ∧ Src w0 b sd rest (A + 2) w' := ptr_spec_l00Src_text_calls _ _ (by
  unfold ptr_spec_l00Src_text
  have hn : x.n = l.length := by have := hx.1; rw [List.length_map, Nat.mul_one] at this; exact this.symm
  refine r_callR (c_pick (x.n : Int) hS hd hb hA (by omega) (by omega)) ?_
  rintro v w1 ⟨r, rfl, hr0, hr1, hS⟩
  refine ⟨r, rfl, ?_⟩
  obtain ⟨i, rfl⟩ : ∃ i : Nat, r = i := ⟨r.toNat, by omega⟩
  have hS2 := hS
  obtain ⟨a, st, h0, h1, h⟩ := hS2
  have hg : l[i]? = some l[i] := List.getElem?_eq_getElem (by omega)
  obtain ⟨p, hp, hc⟩ := (hx.sl h (hs.trans (List.sublist_cons_self _ _))).cell i (.string l[i]) (by rw [List.getElem?_map, hg]; rfl)
  refine r_ix p hp (by omega) (by omega) ?_
  simp only [Int.toNat_natCast, Nat.mul_one]
  refine r_ldN (sh := .str) l[i] hc ?_
  exact r_retR ⟨l[i], rfl, List.getElem_mem _, hS⟩)

end Go.Proofs.YtkifkdkjljcclaaGreat
