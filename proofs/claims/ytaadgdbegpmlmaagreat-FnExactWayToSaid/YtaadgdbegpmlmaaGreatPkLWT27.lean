/- LinkPath: the program. LinkPath: the reference. What is reachable: plain. What is reachable: the program. What is reachable: the reference. The reference's sorting of keys. Commits and books: their data and keys, which are valid, the ancestors. Plain. -/
import Derived.Test.YtaadgdbegpmlmaaGreatPkLWT21
import Derived.Test.YtaadgdbegpmlmaaGreatPkLWT25
import Derived.Test.YtaadgdbegpmlmaaGreatPkLWT26
namespace Go.Sx
open Go.RowKit (Below)
theorem r_pushM {P : Program} {R : Value → World → Prop} {w0 w : World} {ls : List Blk} {r : Nat} {o : Obj} (hM : w.heap[r]? = some o) (hmo : ∀ c e f, o ≠ .cells c e f) {t ty e z by_ : Nat} (hT : SlT P t e z by_) {v : Value} {s : Sl} {xs : List Value} {k : Sl → World → Prop} (hS : SlO w0 w ls e z s xs) (hv : v.cells.size = z) (hz : z ≤ 16777216) (h1 : ∀ u ∈ v.cells.toList, oneC u = true)
    (hbytes : (s.n + 1) * by_ ≤ 140737488355328) (hmax : s.n + 1 ≤ 140737488355328) (h : ∀ s' w', SlO w0 w' ls e z s' (xs ++ v.cells.toList) → s'.n = s.n + 1 → w'.heap[r]? = some o → k s' w') :
    ((real P R).sem (Instr.buildSlice t 1 #[(0, v)]) .slice fun y => (real P R).sem (Builtin.append_ #[t, t] ty #[.slice s.a s.n s.c, .slice y.a y.n y.c]) .slice k : World → Prop) w := by
  refine ⟨⟨some ⟨w.heap.size, 0, none⟩, 1, 1⟩, _, run_bs1 hT hv hz w, ?_⟩
  have hb := below_alloc w (.cells v.cells e)
  refine r_appendM (hb.keeps hM) hmo hT (hS.trans hb) (y := ⟨some ⟨w.heap.size, 0, none⟩, 1, 1⟩) (news := v.cells.toList) ⟨by simp [hv], fun j u hu => ⟨_, rfl, ?_⟩⟩ h1 hbytes hmax h
  rw [add_lit, cell_of_row _ _ _ _ _ _ (heap_alloc_self w _)]
  simpa using hu
end Go.Sx
namespace Go.Proofs.YtaadgdbegpmlmaaGreat
open Go.Sx Go.RowKit

theorem ut_Key : (Tryz.prog).underlying ty_impl_Key = some (.array 32 ty_uint8) := by kernel_rfl
theorem tyOf_byte : tyOf Tryz.prog ty_uint8 = some (.int .u8, 1) := by kernel_rfl
end Go.Proofs.YtaadgdbegpmlmaaGreat

namespace Go.Proofs.YtaadgdbegpmlmaaGreat
open Go.Sx Go.RowKit

end Go.Proofs.YtaadgdbegpmlmaaGreat

namespace Go.Proofs.YtaadgdbegpmlmaaGreat
open Go.Sx Go.RowKit

def meetK (s : List (List Int)) (k : List Int) : List (List Int) := if k ∈ s then s else s ++ [k]
theorem meetK_mem (s : List (List Int)) (k x : List Int) : x ∈ meetK s k ↔ x ∈ s ∨ x = k := by
  unfold meetK
  split
  · constructor
    · exact Or.inl
    · rintro (h | rfl) <;> assumption
  · simp
theorem meetK_nodup {s : List (List Int)} (h : s.Nodup) (k : List Int) : (meetK s k).Nodup := by
  unfold meetK
  split
  · exact h
  · rename_i hk
    exact List.nodup_append.2 ⟨h, by simp, fun a ha b hb => by rw [List.mem_singleton.1 hb]; exact fun e => hk (e ▸ ha)⟩
theorem meetK_grow (s : List (List Int)) (k : List Int) : ∃ t, meetK s k = s ++ t := by
  unfold meetK
  split
  · exact ⟨[], by simp⟩
  · exact ⟨[k], rfl⟩
theorem meets_mem (l : List (List Int)) (x : List Int) : ∀ s, x ∈ l.foldl meetK s ↔ x ∈ s ∨ x ∈ l := by
  induction l with
  | nil => simp
  | cons k r ih => intro s; rw [List.foldl_cons, ih, meetK_mem, List.mem_cons]; exact or_assoc
theorem meets_nodup (l : List (List Int)) : ∀ {s : List (List Int)}, s.Nodup → (l.foldl meetK s).Nodup := by
  induction l with
  | nil => exact fun h => h
  | cons k r ih => exact fun h => ih (meetK_nodup h k)
theorem meets_grow (l : List (List Int)) : ∀ s, ∃ t, l.foldl meetK s = s ++ t := by
  induction l with
  | nil => exact fun s => ⟨[], by simp⟩
  | cons k r ih =>
    intro s
    obtain ⟨t, h⟩ := meetK_grow s k
    obtain ⟨u, h'⟩ := ih (meetK s k)
    exact ⟨t ++ u, by rw [List.foldl_cons, h', h, List.append_assoc]⟩

def nextOf (B : List PB) (k : List Int) : List (List Int) := if k ∈ keysOf B then links (blobAt B k) else []
theorem nextOf_sub (B : List PB) (k : List Int) : ∀ x ∈ nextOf B k, x ∈ B.flatMap links := by
  intro x hx
  unfold nextOf at hx
  split at hx
  · unfold blobAt at hx
    rcases Nat.lt_or_ge (posK (keysOf B) k) B.length with h | h
    · refine List.mem_flatMap.2 ⟨_, ?_, hx⟩
      simp only [List.getD, List.getElem?_eq_getElem h, Option.getD_some]
      exact List.getElem_mem _
    · simp only [List.getD, List.getElem?_eq_none h, Option.getD_none] at hx
      cases hx
  · cases hx
/-- What can be reached from the roots. -/
inductive GetsTo (B : List PB) (roots : List (List Int)) : List Int → Prop
  | root {k : List Int} : k ∈ roots → GetsTo B roots k
  | link {k l : List Int} : GetsTo B roots k → l ∈ nextOf B k → GetsTo B roots l
theorem GetsTo.sub {B : List PB} {roots : List (List Int)} {k : List Int} (h : GetsTo B roots k) : k ∈ roots ++ B.flatMap links := by
  cases h with
  | root h => exact List.mem_append_left _ h
  | link _ h => exact List.mem_append_right _ (nextOf_sub B _ _ h)

/-- The program's list when the first i keys have been looked at. -/
structure WalkOk (B : List PB) (roots : List (List Int)) (i : Nat) (s : List (List Int)) : Prop where
  nodup : s.Nodup
  reach : ∀ k ∈ s, GetsTo B roots k
  roots : ∀ k ∈ roots, k ∈ s
  done : ∀ k ∈ s.take i, ∀ l ∈ nextOf B k, l ∈ s
  le : i ≤ s.length
theorem WalkOk.first (B : List PB) (roots : List (List Int)) : WalkOk B roots 0 (roots.foldl meetK []) :=
  ⟨meets_nodup _ List.nodup_nil, fun k hk => .root (by simpa using (meets_mem roots k []).1 hk), fun k hk => (meets_mem roots k []).2 (.inr hk), by simp, Nat.zero_le _⟩
theorem WalkOk.next {B : List PB} {roots s : List (List Int)} {i : Nat} (h : WalkOk B roots i s) {k : List Int} (hk : s[i]? = some k) : WalkOk B roots (i + 1) ((nextOf B k).foldl meetK s) := by
  obtain ⟨t, ht⟩ := meets_grow (nextOf B k) s
  have hi := (List.getElem?_eq_some_iff.1 hk).1
  refine ⟨meets_nodup _ h.nodup, fun x hx => ?_, fun x hx => (meets_mem _ _ _).2 (.inl (h.roots x hx)), fun x hx l hl => ?_, by rw [ht, List.length_append]; omega⟩
  · rcases (meets_mem _ _ _).1 hx with hx | hx
    · exact h.reach x hx
    · exact .link (h.reach k (List.mem_of_getElem? hk)) hx
  · rw [ht, List.take_append_of_le_length (by omega), take_succ_get hk] at hx
    refine (meets_mem _ _ _).2 ?_
    rcases List.mem_append.1 hx with hx | hx
    · exact .inl (h.done x hx l hl)
    · rw [List.mem_singleton.1 hx] at hl
      exact .inr hl
theorem WalkOk.len {B : List PB} {roots s : List (List Int)} {i : Nat} (h : WalkOk B roots i s) : s.length ≤ roots.length + (B.flatMap links).length := by
  have := nodup_le h.nodup fun x hx => (h.reach x hx).sub
  rwa [List.length_append] at this
theorem WalkOk.all {B : List PB} {roots s : List (List Int)} {i : Nat} (h : WalkOk B roots i s) (hi : s.length ≤ i) (k : List Int) : k ∈ s ↔ GetsTo B roots k := by
  refine ⟨h.reach k, fun hk => ?_⟩
  have hd := h.done
  rw [List.take_of_length_le hi] at hd
  induction hk with
  | root hk => exact h.roots _ hk
  | link _ hl ih => exact hd _ ih _ hl

/-- The reference's list: its first i keys have been looked at; the blobs D have been found. -/
structure ListOk (B : List PB) (roots : List (List Int)) (i : Nat) (s D : List (List Int)) : Prop where
  is : s = roots ++ D.flatMap (nextOf B)
  nodup : D.Nodup
  inB : ∀ k ∈ D, k ∈ keysOf B
  sub : ∀ k ∈ D, k ∈ s.take i
  found : ∀ k ∈ s.take i, k ∈ keysOf B → k ∈ D
  reach : ∀ k ∈ s, GetsTo B roots k
  le : i ≤ s.length
theorem ListOk.first (B : List PB) (roots : List (List Int)) : ListOk B roots 0 roots [] := ⟨by simp, List.nodup_nil, by simp, by simp, by simp, fun k hk => .root hk, Nat.zero_le _⟩
theorem ListOk.skip {B : List PB} {roots s D : List (List Int)} {i : Nat} (h : ListOk B roots i s D) {k : List Int} (hk : s[i]? = some k) (hD : k ∈ keysOf B → k ∈ D) : ListOk B roots (i + 1) s D := by
  have hi := (List.getElem?_eq_some_iff.1 hk).1
  refine ⟨h.is, h.nodup, h.inB, fun x hx => ?_, fun x hx hB => ?_, h.reach, by omega⟩
  · rw [take_succ_get hk]
    exact List.mem_append_left _ (h.sub x hx)
  · rw [take_succ_get hk] at hx
    rcases List.mem_append.1 hx with hx | hx
    · exact h.found x hx hB
    · rw [List.mem_singleton.1 hx] at hB ⊢
      exact hD hB
theorem flat_le {α β : Type} {f : α → List β} {n : Nat} : ∀ {l : List α}, (∀ x ∈ l, (f x).length ≤ n) → (l.flatMap f).length ≤ l.length * n
  | [], _ => by simp
  | x :: l, h => by
    have h1 := h x (by simp)
    have h2 := flat_le (l := l) fun y hy => h y (by simp [hy])
    rw [List.flatMap_cons, List.length_append, List.length_cons, Nat.add_mul]
    omega
theorem blobAt_len {B : List PB} (hd : ∀ b ∈ B, b.data.length ≤ 1024) (k : List Int) : (blobAt B k).data.length ≤ 1024 := by
  unfold blobAt
  rcases Nat.lt_or_ge (posK (keysOf B) k) B.length with h | h
  · simp only [List.getD, List.getElem?_eq_getElem h, Option.getD_some]
    exact hd _ (List.getElem_mem _)
  · simp [List.getD, List.getElem?_eq_none h]
theorem nextOf_len {B : List PB} (hd : ∀ b ∈ B, b.data.length ≤ 1024) (k : List Int) : (nextOf B k).length ≤ 1024 := by
  unfold nextOf
  split
  · exact Nat.le_trans (links_len _) (blobAt_len hd k)
  · simp
theorem ListOk.len {B : List PB} {roots s D : List (List Int)} {i : Nat} (h : ListOk B roots i s D) (hd : ∀ b ∈ B, b.data.length ≤ 1024) : s.length ≤ roots.length + B.length * 1024 := by
  have h1 := nodup_le h.nodup h.inB
  rw [keysOf_len] at h1
  have h2 := flat_le (l := D) (f := nextOf B) (n := 1024) fun x _ => nextOf_len hd x
  have := Nat.mul_le_mul_right 1024 h1
  have e := congrArg List.length h.is
  rw [List.length_append] at e
  omega
theorem ListOk.all {B : List PB} {roots s D : List (List Int)} {i : Nat} (h : ListOk B roots i s D) (hi : s.length ≤ i) (k : List Int) : k ∈ s ↔ GetsTo B roots k := by
  refine ⟨h.reach k, fun hk => ?_⟩
  have hd := h.found
  rw [List.take_of_length_le hi] at hd
  induction hk with
  | root hk => rw [h.is]; exact List.mem_append_left _ hk
  | @link k l _ hl ih =>
    have hB : k ∈ keysOf B := by
      unfold nextOf at hl
      split at hl
      · assumption
      · cases hl
    rw [h.is]
    exact List.mem_append_right _ (List.mem_flatMap.2 ⟨k, hd k ih hB, hl⟩)
/-- Some keys in ascending order, each once. -/
def putK (s : List (List Int)) (k : List Int) : List (List Int) := if k ∈ s then s else insAt (posK s k) k s
def sortK (l : List (List Int)) : List (List Int) := l.foldl putK []
theorem mem_insAt' {i : Nat} {x y : List Int} {l : List (List Int)} : y ∈ insAt i x l ↔ y = x ∨ y ∈ l := by
  refine ⟨mem_insAt, fun h => ?_⟩
  unfold insAt
  simp only [List.mem_append, List.mem_singleton]
  rcases h with rfl | h
  · exact .inl (.inr rfl)
  · rw [← List.take_append_drop i l, List.mem_append] at h
    rcases h with h | h
    · exact .inl (.inl h)
    · exact .inr h
theorem putK_asc {s : List (List Int)} (h : Asc s) (k : List Int) : Asc (putK s k) := by
  unfold putK
  split
  · exact h
  · exact asc_insAt h (by assumption)
theorem putK_mem (s : List (List Int)) (k x : List Int) : x ∈ putK s k ↔ x = k ∨ x ∈ s := by
  unfold putK
  split
  · constructor
    · exact Or.inr
    · rintro (rfl | h) <;> assumption
  · exact mem_insAt'
theorem puts_asc (l : List (List Int)) : ∀ {s : List (List Int)}, Asc s → Asc (l.foldl putK s) := by
  induction l with
  | nil => exact fun h => h
  | cons k r ih => exact fun h => ih (putK_asc h k)
theorem puts_mem (l : List (List Int)) (x : List Int) : ∀ s, x ∈ l.foldl putK s ↔ x ∈ s ∨ x ∈ l := by
  induction l with
  | nil => simp
  | cons k r ih =>
    intro s
    rw [List.foldl_cons, ih, putK_mem, List.mem_cons]
    constructor
    · rintro ((h | h) | h)
      · exact .inr (.inl h)
      · exact .inl h
      · exact .inr (.inr h)
    · rintro (h | h | h)
      · exact .inl (.inr h)
      · exact .inl (.inl h)
      · exact .inr h
theorem sortK_asc (l : List (List Int)) : Asc (sortK l) := puts_asc l (by unfold Asc; exact List.Pairwise.nil)
theorem sortK_mem (l : List (List Int)) (x : List Int) : x ∈ sortK l ↔ x ∈ l := by unfold sortK; rw [puts_mem]; simp
end Go.Proofs.YtaadgdbegpmlmaaGreat

namespace Go.Proofs.YtaadgdbegpmlmaaGreat
open Go.Sx Go.RowKit

/-- A map that says yes of some keys. -/
def yesOf (s : List (List Int)) : List (List Int × Value) := s.map fun k => (k, .bool true)
abbrev seenB (b5 b6 rm : Nat) (so : Sl) : List Blk := [(b6, #[.map (some rm)], ty_map_impl_Key_bool), (b5, #[.slice so.a so.n so.c], ty_sl_impl_Key)]
/-- The state of a walk: what has been met. -/
def Seen (w0 w : World) (b5 b6 rm : Nat) (ls : List Blk) (s : List (List Int)) : Prop :=
  ∃ (so : Sl) (Lo : List Blk) (o : Obj), At w0 w (seenB b5 b6 rm so ++ (Lo ++ ls)) ∧ OwnS ty_impl_Key 32 so (s.flatMap u8s) Lo ∧ so.n = s.length ∧ w.heap[rm]? = some o ∧ MapIs o (yesOf s)

/-- Some keys are met one after the other. -/
theorem Seen.at_ {w0 w : World} {b5 b6 rm : Nat} {ls : List Blk} {s : List (List Int)} (h : Seen w0 w b5 b6 rm ls s) : ∃ L, At w0 w (L ++ ls) := by
  obtain ⟨so, Lo, o, h, _⟩ := h
  exact ⟨_, (List.append_assoc _ _ _).symm ▸ h⟩

end Go.Proofs.YtaadgdbegpmlmaaGreat

namespace Go.Sx
end Go.Sx
namespace Go.Proofs.YtaadgdbegpmlmaaGreat
open Go.Sx Go.RowKit

end Go.Proofs.YtaadgdbegpmlmaaGreat

namespace Go.Proofs.YtaadgdbegpmlmaaGreat
open Go.Sx Go.RowKit

end Go.Proofs.YtaadgdbegpmlmaaGreat

namespace Go.Proofs.YtaadgdbegpmlmaaGreat
open Go.Sx Go.RowKit

instance : Inhabited PC := ⟨⟨zero32, [], 0, ⟨#[]⟩⟩⟩
def cdata (c : PC) : List Int := (((c.ps.length : Int) + 1) % 256 :: (c.root ++ c.ps.flatten)) ++ (c.num % 256 :: strL c.note)
def ckey (c : PC) : List Int := hashL 7 (cdata c)
theorem cdata_ok {c : PC} (h : c.ok) : bytesOk (cdata c) := by
  intro b hb
  unfold cdata at hb
  simp only [List.mem_append, List.mem_cons, List.mem_flatten] at hb
  rcases hb with (rfl | hb | ⟨k, hk, hb⟩) | rfl | hb
  · omega
  · exact h.1.2 b hb
  · exact (h.2 k hk).2 b hb
  · omega
  · exact strL_ok _ b hb
theorem flatten_len {ks : List (List Int)} (h : ∀ k ∈ ks, keyOk k) : ks.flatten.length = 32 * ks.length := flat_len h
theorem cdata_len {c : PC} (h : c.ok) : (cdata c).length = 34 + 32 * c.ps.length + c.note.size := by
  unfold cdata
  simp only [List.length_append, List.length_cons, flatten_len h.2, h.1.1, strL_len]
  omega
theorem ckey_ok (c : PC) : keyOk (ckey c) := PB.key_ok ⟨7, cdata c⟩

/-- Neighbours rise. -/
def adjK (ks : List (List Int)) : Prop := ∀ j, j + 1 < ks.length → ltL (ks.getD j []) (ks.getD (j + 1) [])
instance (ks : List (List Int)) : Decidable (adjK ks) := decidable_of_iff (∀ j, j < ks.length - 1 → ltL (ks.getD j []) (ks.getD (j + 1) [])) ⟨fun h j hj => h j (by omega), fun h j hj => h j (by omega)⟩
def okC (c : PC) : Prop := adjK c.ps ∧ c.ps.length ≤ 3 ∧ (0 ≤ c.num ∧ c.num ≤ 40) ∧ c.note.size ≤ 64
instance (c : PC) : Decidable (okC c) := inferInstanceAs (Decidable (_ ∧ _ ∧ _ ∧ _))

def keysC (X : List PC) : List (List Int) := X.map ckey
theorem keysC_len (X : List PC) : (keysC X).length = X.length := by simp [keysC]
theorem keysC_ok (X : List PC) : ∀ k ∈ keysC X, keyOk k := fun k hk => by
  obtain ⟨c, _, rfl⟩ := List.mem_map.1 hk
  exact ckey_ok c
theorem keysC_snoc (X : List PC) (c : PC) : keysC (X ++ [c]) = keysC X ++ [ckey c] := by simp [keysC]
def ixK (ks : List (List Int)) (k : List Int) : Nat := ks.findIdx fun x => decide (x = k)
theorem ixK_lt {ks : List (List Int)} {k : List Int} (h : k ∈ ks) : ixK ks k < ks.length := List.findIdx_lt_length_of_exists ⟨k, h, by simp⟩
theorem ixK_get {ks : List (List Int)} {k : List Int} (h : k ∈ ks) : ks[ixK ks k]? = some k := by
  have hl := ixK_lt h
  have := List.findIdx_getElem (p := fun x => decide (x = k)) (w := hl)
  rw [List.getElem?_eq_getElem hl]
  congr 1
  exact of_decide_eq_true this
theorem ixK_append {ks r : List (List Int)} {k : List Int} (h : k ∈ ks) : ixK (ks ++ r) k = ixK ks k := by
  unfold ixK
  rw [List.findIdx_append, if_pos]
  exact ixK_lt h
theorem ixK_of {ks : List (List Int)} (hn : ks.Nodup) {k : List Int} {i : Nat} (h : ks[i]? = some k) : ixK ks k = i := by
  have hm : k ∈ ks := List.mem_of_getElem? h
  have h1 := ixK_get hm
  have hi : i < ks.length := (List.getElem?_eq_some_iff.1 h).1
  exact (List.getElem?_inj (ixK_lt hm) hn).1 (h1.trans h.symm)
/-- The commit with a key. -/
def cAt (X : List PC) (ks : List (List Int)) (k : List Int) : PC := X.getD (ixK ks k) default
def numC (X : List PC) (ks : List (List Int)) (ps : List (List Int)) : Int := ps.foldl (fun o k => max o ((cAt X ks k).num + 1)) 0
def rootOf (es : List PE) : List Int := trKey (treeF (es.length + 1) es)
def mapAt (b : PBk) (i : Nat) : List PE := b.maps.getD i []
def comAt (b : PBk) (i : Nat) : PC := b.cms.getD i default
/-- A commit that may stand behind those before it. -/
def goodC (b : PBk) (i : Nat) : Prop := okC (comAt b i) ∧ okE (mapAt b i) ∧ (comAt b i).root = rootOf (mapAt b i) ∧ (∀ k ∈ (comAt b i).ps, k ∈ (keysC b.cms).take i) ∧ (comAt b i).num = numC b.cms ((keysC b.cms).take i) (comAt b i).ps ∧ ckey (comAt b i) ∉ (keysC b.cms).take i
instance (b : PBk) (i : Nat) : Decidable (goodC b i) := inferInstanceAs (Decidable (_ ∧ _ ∧ _ ∧ _ ∧ _ ∧ _))
def validB (b : PBk) : Prop := (b.cms.length ≤ 40 ∧ b.maps.length = b.cms.length) ∧ ∀ i, i < b.cms.length → goodC b i
instance (b : PBk) : Decidable (validB b) := inferInstanceAs (Decidable (_ ∧ _))
def keysB (b : PBk) : List (List Int) := keysC b.cms
theorem keysB_len (b : PBk) : (keysB b).length = b.cms.length := keysC_len _
theorem keysB_ok (b : PBk) : ∀ k ∈ keysB b, keyOk k := keysC_ok _
theorem keysB_get {b : PBk} {i : Nat} (h : i < b.cms.length) : (keysB b)[i]? = some (ckey (comAt b i)) := by
  unfold keysB keysC comAt
  rw [List.getElem?_map, List.getElem?_eq_getElem h]
  simp [List.getD, h]
theorem keysB_nodup {b : PBk} (h : validB b) : (keysB b).Nodup := by
  have : ∀ i, i ≤ b.cms.length → ((keysB b).take i).Nodup := by
    intro i
    induction i with
    | zero => simp
    | succ i ih =>
      intro hi
      rw [take_succ_get (keysB_get (by omega)), List.nodup_append]
      refine ⟨ih (by omega), by simp, fun x hx y hy => ?_⟩
      rw [List.mem_singleton.1 hy]
      intro he
      subst he
      exact (h.2 i (by omega)).2.2.2.2.2 hx
  have := this b.cms.length (Nat.le_refl _)
  rwa [List.take_of_length_le (by rw [keysB_len]; exact Nat.le_refl _)] at this
/-- The parents of the commit with a key. -/
def parsB (b : PBk) (k : List Int) : List (List Int) := (cAt b.cms (keysB b) k).ps
theorem pars_mem {b : PBk} (h : validB b) {k : List Int} (hk : k ∈ keysB b) {p : List Int} (hp : p ∈ parsB b k) : p ∈ keysB b ∧ ixK (keysB b) p < ixK (keysB b) k := by
  have hl := ixK_lt hk
  rw [keysB_len] at hl
  have hg := (h.2 _ hl).2.2.2.1 p hp
  have hm := List.mem_of_mem_take hg
  refine ⟨hm, ?_⟩
  have h1 := ixK_lt hg
  have h2 := ixK_append (r := (keysC b.cms).drop (ixK (keysB b) k)) hg
  rw [List.take_append_drop] at h2
  rw [List.length_take] at h1
  show ixK (keysC b.cms) p < _
  rw [h2]
  exact Nat.lt_of_lt_of_le h1 (Nat.min_le_left _ _)

inductive AncOf (b : PBk) (k : List Int) : List Int → Prop
  | self : AncOf b k k
  | up {y p : List Int} : AncOf b k y → p ∈ parsB b y → AncOf b k p
theorem AncOf.mem {b : PBk} (hv : validB b) {k x : List Int} (hk : k ∈ keysB b) (h : AncOf b k x) : x ∈ keysB b := by
  induction h with
  | self => exact hk
  | up _ hp ih => exact (pars_mem hv ih hp).1
theorem AncOf.trans {b : PBk} {k y x : List Int} (h : AncOf b k y) (g : AncOf b y x) : AncOf b k x := by
  induction g with
  | self => exact h
  | up _ hp ih => exact .up ih hp
/-- The list of ancestors when the first i of them have been looked at. -/
structure AncW (b : PBk) (k : List Int) (i : Nat) (s : List (List Int)) : Prop where
  nodup : s.Nodup
  anc : ∀ x ∈ s, AncOf b k x
  has : k ∈ s
  done : ∀ x ∈ s.take i, ∀ p ∈ parsB b x, p ∈ s
  le : i ≤ s.length
theorem AncW.first (b : PBk) (k : List Int) : AncW b k 0 [k] := ⟨by simp, fun x hx => by rw [List.mem_singleton.1 hx]; exact .self, by simp, by simp, by simp⟩
theorem AncW.next {b : PBk} {k y : List Int} {i : Nat} {s : List (List Int)} (h : AncW b k i s) (hk : s[i]? = some y) : AncW b k (i + 1) ((parsB b y).foldl meetK s) := by
  obtain ⟨t, ht⟩ := meets_grow (parsB b y) s
  have hi := (List.getElem?_eq_some_iff.1 hk).1
  refine ⟨meets_nodup _ h.nodup, fun x hx => ?_, (meets_mem _ _ _).2 (.inl h.has), fun x hx l hl => ?_, by rw [ht, List.length_append]; omega⟩
  · rcases (meets_mem _ _ _).1 hx with hx | hx
    · exact h.anc x hx
    · exact .up (h.anc y (List.mem_of_getElem? hk)) hx
  · rw [ht, List.take_append_of_le_length (by omega), take_succ_get hk] at hx
    refine (meets_mem _ _ _).2 ?_
    rcases List.mem_append.1 hx with hx | hx
    · exact .inl (h.done x hx l hl)
    · rw [List.mem_singleton.1 hx] at hl
      exact .inr hl
theorem AncW.all {b : PBk} {k : List Int} {i : Nat} {s : List (List Int)} (h : AncW b k i s) (hi : s.length ≤ i) (x : List Int) : x ∈ s ↔ AncOf b k x := by
  refine ⟨h.anc x, fun hx => ?_⟩
  have hd := h.done
  rw [List.take_of_length_le hi] at hd
  induction hx with
  | self => exact h.has
  | up _ hp ih => exact hd _ ih _ hp
theorem AncW.len {b : PBk} (hv : validB b) {k : List Int} (hk : k ∈ keysB b) {i : Nat} {s : List (List Int)} (h : AncW b k i s) : s.length ≤ 40 := by
  have h1 := nodup_le h.nodup fun x hx => (h.anc x hx).mem hv hk
  rw [keysB_len] at h1
  have := hv.1.1
  omega
def ancGo (b : PBk) : Nat → List (List Int) → Nat → List (List Int)
  | 0, out, _ => out
  | f + 1, out, i => if i < out.length then ancGo b f ((parsB b (out.getD i [])).foldl meetK out) (i + 1) else out
theorem ancGo_ok {b : PBk} (hv : validB b) {k : List Int} (hk : k ∈ keysB b) : ∀ (f : Nat) (s : List (List Int)) (i : Nat), AncW b k i s → 40 < f + i → ∃ i', AncW b k i' (ancGo b f s i) ∧ (ancGo b f s i).length ≤ i'
  | 0, s, i, h, hf => by have := h.len hv hk; have := h.le; omega
  | f + 1, s, i, h, hf => by
    unfold ancGo
    split
    · rename_i hi
      have he : s[i]? = some (s.getD i []) := by simp [List.getD, hi]
      exact ancGo_ok hv hk f _ _ (h.next he) (by omega)
    · exact ⟨i, h, by omega⟩
/-- The ancestors of a commit, itself among them, in ascending order. -/
def ancB (b : PBk) (k : List Int) : List (List Int) := sortK (ancGo b 41 [k] 0)
theorem ancB_mem {b : PBk} (hv : validB b) {k : List Int} (hk : k ∈ keysB b) (x : List Int) : x ∈ ancB b k ↔ AncOf b k x := by
  obtain ⟨i', h1, h2⟩ := ancGo_ok hv hk 41 [k] 0 (AncW.first b k) (by omega)
  unfold ancB
  rw [sortK_mem]
  exact h1.all h2 x
theorem ancB_asc (b : PBk) (k : List Int) : Asc (ancB b k) := sortK_asc _
theorem ancB_of {b : PBk} (hv : validB b) {k : List Int} (hk : k ∈ keysB b) {out : List (List Int)} (ha : Asc out) (hm : ∀ x, x ∈ out ↔ AncOf b k x) : out = ancB b k :=
  asc_ext ha (ancB_asc b k) fun x => by rw [hm, ancB_mem hv hk]
theorem ancB_sub {b : PBk} (hv : validB b) {k : List Int} (hk : k ∈ keysB b) {x : List Int} (hx : x ∈ ancB b k) : x ∈ keysB b := ((ancB_mem hv hk x).1 hx).mem hv hk
theorem ancB_len {b : PBk} (hv : validB b) {k : List Int} (hk : k ∈ keysB b) : (ancB b k).length ≤ 40 := by
  have h1 := nodup_le (ancB_asc b k).nodup fun x hx => ancB_sub hv hk hx
  rw [keysB_len] at h1
  have := hv.1.1
  omega

/-- The code with which a book is opened at some keys. -/
def openCode (b : PBk) (ks : List (List Int)) : Int := if validB b then (if ∀ k ∈ ks, k ∈ keysB b then 0 else 6) else 1
end Go.Proofs.YtaadgdbegpmlmaaGreat
