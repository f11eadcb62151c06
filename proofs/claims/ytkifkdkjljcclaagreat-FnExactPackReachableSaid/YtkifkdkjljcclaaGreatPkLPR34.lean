/- Commits and books: their data and keys, which are valid, the ancestors. Plain. History: a string is appended to bytes; the greater of two numbers; keys are found; commits: data, keys, which are valid: the program. History: the program's ledger: found keys, numbers, made of a book, opened. History: books, indices, ancestors: the reference. History: AncestorsOf, IsAncestor: both sides. History: the shortest ways: plain; a key is laid into an own map, new or not. History: WayTo: the program. History: WayTo: the reference's walk. History: HeadsOf: both sides. Blocks of strings' bytes are kept; the laws' own source beside them: entries, maps, chunks. Printed in part (n4.py). -/
import Derived.ChangeMaps5
import Derived.Test.YtkifkdkjljcclaaGreatPkLPR31
import Derived.Test.YtkifkdkjljcclaaGreatPkLPR30
import Derived.Test.YtkifkdkjljcclaaGreatPkLPR33
import Derived.Test.YtkifkdkjljcclaaGreatPkLPR27
namespace Go.Proofs.YtkifkdkjljcclaaGreat
open Go.Sx Go.RowKit

instance : Inhabited PC := ⟨⟨zero32, [], 0, ⟨#[]⟩⟩⟩
def cdata (c : PC) : List Int := (((c.ps.length : Int) + 1) % 256 :: (c.root ++ c.ps.flatten)) ++ (c.num % 256 :: strL c.note)
def ckey (c : PC) : List Int := hashL 7 (cdata c)
theorem ckey_ok (c : PC) : keyOk (ckey c) := PB.key_ok ⟨7, cdata c⟩

def adjK (ks : List (List Int)) : Prop := ∀ j, j + 1 < ks.length → ltL (ks.getD j []) (ks.getD (j + 1) [])
instance (ks : List (List Int)) : Decidable (adjK ks) := decidable_of_iff (∀ j, j < ks.length - 1 → ltL (ks.getD j []) (ks.getD (j + 1) [])) ⟨fun h j hj => h j (by omega), fun h j hj => h j (by omega)⟩
def okC (c : PC) : Prop := adjK c.ps ∧ c.ps.length ≤ 3 ∧ (0 ≤ c.num ∧ c.num ≤ 40) ∧ c.note.size ≤ 64
instance (c : PC) : Decidable (okC c) := inferInstanceAs (Decidable (_ ∧ _ ∧ _ ∧ _))

def keysC (X : List PC) : List (List Int) := X.map ckey
theorem keysC_len (X : List PC) : (keysC X).length = X.length := by simp [keysC]
theorem keysC_ok (X : List PC) : ∀ k ∈ keysC X, keyOk k := fun k hk => by
  obtain ⟨c, _, rfl⟩ := List.mem_map.1 hk
  exact ckey_ok c
def ixK (ks : List (List Int)) (k : List Int) : Nat := ks.findIdx fun x => decide (x = k)
theorem ixK_lt {ks : List (List Int)} {k : List Int} (h : k ∈ ks) : ixK ks k < ks.length := List.findIdx_lt_length_of_exists ⟨k, h, by simp⟩
theorem ixK_get {ks : List (List Int)} {k : List Int} (h : k ∈ ks) : ks[ixK ks k]? = some k := by
  have hl := ixK_lt h
  have := List.findIdx_getElem (p := fun x => decide (x = k)) (w := hl)
  rw [List.getElem?_eq_getElem hl]
  congr 1
  exact of_decide_eq_true this
theorem ixK_append {ks r : List (List Int)} {k : List Int} (h : k ∈ ks) : ixK (ks ++ r) k = ixK ks k := by
  unfold ixK
  rw [List.findIdx_append, if_pos]
  exact ixK_lt h
def cAt (X : List PC) (ks : List (List Int)) (k : List Int) : PC := X.getD (ixK ks k) default
def numC (X : List PC) (ks : List (List Int)) (ps : List (List Int)) : Int := ps.foldl (fun o k => max o ((cAt X ks k).num + 1)) 0
def rootOf (es : List PE) : List Int := trKey (treeF (es.length + 1) es)
def mapAt (b : PBk) (i : Nat) : List PE := b.maps.getD i []
def comAt (b : PBk) (i : Nat) : PC := b.cms.getD i default
def goodC (b : PBk) (i : Nat) : Prop := okC (comAt b i) ∧ okE (mapAt b i) ∧ (comAt b i).root = rootOf (mapAt b i) ∧ (∀ k ∈ (comAt b i).ps, k ∈ (keysC b.cms).take i) ∧ (comAt b i).num = numC b.cms ((keysC b.cms).take i) (comAt b i).ps ∧ ckey (comAt b i) ∉ (keysC b.cms).take i
instance (b : PBk) (i : Nat) : Decidable (goodC b i) := inferInstanceAs (Decidable (_ ∧ _ ∧ _ ∧ _ ∧ _ ∧ _))
def validB (b : PBk) : Prop := (b.cms.length ≤ 40 ∧ b.maps.length = b.cms.length) ∧ ∀ i, i < b.cms.length → goodC b i
instance (b : PBk) : Decidable (validB b) := inferInstanceAs (Decidable (_ ∧ _))
def keysB (b : PBk) : List (List Int) := keysC b.cms
theorem keysB_len (b : PBk) : (keysB b).length = b.cms.length := keysC_len _
theorem keysB_ok (b : PBk) : ∀ k ∈ keysB b, keyOk k := keysC_ok _
def parsB (b : PBk) (k : List Int) : List (List Int) := (cAt b.cms (keysB b) k).ps
theorem pars_mem {b : PBk} (h : validB b) {k : List Int} (hk : k ∈ keysB b) {p : List Int} (hp : p ∈ parsB b k) : p ∈ keysB b ∧ ixK (keysB b) p < ixK (keysB b) k := by
  have hl := ixK_lt hk
  rw [keysB_len] at hl
  have hg := (h.2 _ hl).2.2.2.1 p hp
  have hm := List.mem_of_mem_take hg
  refine ⟨hm, ?_⟩
  have h1 := ixK_lt hg
  have h2 := ixK_append (r := (keysC b.cms).drop (ixK (keysB b) k)) hg
  rw [List.take_append_drop] at h2
  rw [List.length_take] at h1
  show ixK (keysC b.cms) p < _
  rw [h2]
  exact Nat.lt_of_lt_of_le h1 (Nat.min_le_left _ _)

inductive AncOf (b : PBk) (k : List Int) : List Int → Prop
  | self : AncOf b k k
  | up {y p : List Int} : AncOf b k y → p ∈ parsB b y → AncOf b k p
theorem AncOf.mem {b : PBk} (hv : validB b) {k x : List Int} (hk : k ∈ keysB b) (h : AncOf b k x) : x ∈ keysB b := by
  induction h with
  | self => exact hk
  | up _ hp ih => exact (pars_mem hv ih hp).1
theorem AncOf.trans {b : PBk} {k y x : List Int} (h : AncOf b k y) (g : AncOf b y x) : AncOf b k x := by
  induction g with
  | self => exact h
  | up _ hp ih => exact .up ih hp
structure AncW (b : PBk) (k : List Int) (i : Nat) (s : List (List Int)) : Prop where
  nodup : s.Nodup
  anc : ∀ x ∈ s, AncOf b k x
  has : k ∈ s
  done : ∀ x ∈ s.take i, ∀ p ∈ parsB b x, p ∈ s
  le : i ≤ s.length
theorem AncW.first (b : PBk) (k : List Int) : AncW b k 0 [k] := ⟨by simp, fun x hx => by rw [List.mem_singleton.1 hx]; exact .self, by simp, by simp, by simp⟩
theorem AncW.next {b : PBk} {k y : List Int} {i : Nat} {s : List (List Int)} (h : AncW b k i s) (hk : s[i]? = some y) : AncW b k (i + 1) ((parsB b y).foldl meetK s) := by
  obtain ⟨t, ht⟩ := meets_grow (parsB b y) s
  have hi := (List.getElem?_eq_some_iff.1 hk).1
  refine ⟨meets_nodup _ h.nodup, fun x hx => ?_, (meets_mem _ _ _).2 (.inl h.has), fun x hx l hl => ?_, by rw [ht, List.length_append]; omega⟩
  · rcases (meets_mem _ _ _).1 hx with hx | hx
    · exact h.anc x hx
    · exact .up (h.anc y (List.mem_of_getElem? hk)) hx
  · rw [ht, List.take_append_of_le_length (by omega), take_succ_get hk] at hx
    refine (meets_mem _ _ _).2 ?_
    rcases List.mem_append.1 hx with hx | hx
    · exact .inl (h.done x hx l hl)
    · rw [List.mem_singleton.1 hx] at hl
      exact .inr hl
theorem AncW.all {b : PBk} {k : List Int} {i : Nat} {s : List (List Int)} (h : AncW b k i s) (hi : s.length ≤ i) (x : List Int) : x ∈ s ↔ AncOf b k x := by
  refine ⟨h.anc x, fun hx => ?_⟩
  have hd := h.done
  rw [List.take_of_length_le hi] at hd
  induction hx with
  | self => exact h.has
  | up _ hp ih => exact hd _ ih _ hp
theorem AncW.len {b : PBk} (hv : validB b) {k : List Int} (hk : k ∈ keysB b) {i : Nat} {s : List (List Int)} (h : AncW b k i s) : s.length ≤ 40 := by
  have h1 := nodup_le h.nodup fun x hx => (h.anc x hx).mem hv hk
  rw [keysB_len] at h1
  have := hv.1.1
  omega
end Go.Proofs.YtkifkdkjljcclaaGreat

namespace Go.Sx
open Go.RowKit (Below)
variable {P : Program} {R : Value → World → Prop} {w0 w : World} {ls : List Blk}

end Go.Sx
namespace Go.Proofs.YtkifkdkjljcclaaGreat
open Go.Sx Go.RowKit

def ixI (ks : List (List Int)) (k : List Int) : Int := if k ∈ ks then (ixK ks k : Int) else -1
theorem ixI_ge (ks : List (List Int)) (k : List Int) : decide (ixI ks k ≥ 0) = decide (k ∈ ks) := by
  unfold ixI
  split
  · rename_i h
    rw [decide_eq_true h, decide_eq_true (by omega)]
  · rename_i h
    rw [decide_eq_false h, decide_eq_false (by omega)]
theorem ixI_pos {ks : List (List Int)} {k : List Int} (h : k ∈ ks) : ixI ks k = (ixK ks k : Int) := if_pos h
theorem ixK_first {ks : List (List Int)} {k : List Int} {j : Nat} (h : ks[j]? = some k) (hn : k ∉ ks.take j) : ixK ks k = j := by
  have hj := (List.getElem?_eq_some_iff.1 h).1
  unfold ixK
  rw [List.findIdx_eq hj]
  refine ⟨by simpa using (List.getElem?_eq_some_iff.1 h).2, fun i hi => ?_⟩
  have : i < ks.length := by omega
  simp only [decide_eq_false_iff_not]
  intro he
  exact hn (List.mem_iff_getElem.2 ⟨i, by rw [List.length_take]; omega, by rw [List.getElem_take]; exact he⟩)

theorem c_IndexK {w : World} {s : Sl} {ks : List (List Int)} {k : List Int} (hs : KsR w s ks) (hk : keyOk k) (hmax : ks.length ≤ 1073741824) : Ret Tryz.prog n_slices_Index_sl_impl_Key_impl_Key [.slice s.a s.n s.c, .agg (u8s k).toArray] w [.int .i64] (fun r _ => r = ixI ks k) := slices_Index_sl_impl_Key_impl_Key_calls _ _ (by
  unfold slices_Index_sl_impl_Key_impl_Key
  have hn := hs.n
  refine r_new (At.refl w) fun b3 w1 h => ?_
  refine r_loop (σ := Int) (fun i w' => ∃ j : Nat, i = j ∧ j ≤ ks.length ∧ k ∉ ks.take j ∧ At w w' [(b3, (u8s k).toArray, ty_impl_Key)]) (fun i _ => (s.n - i).toNat) 0 rfl ⟨0, rfl, by omega, by simp, h⟩ ?_
  rintro i w2 ⟨j, rfl, hj, hnot, h⟩
  refine r_any fun _ => ?_
  refine r_if ((j : Int) < (s.n : Int)) rfl (fun hlt => ?_) (fun hge => ?_)
  · refine r_draw h fun w3 h => ?_
    obtain ⟨x, q, hx, hxm, hq, hxo, hxl⟩ := (hs.at h).get (i := j) (by omega)
    refine r_ldA h 0 rfl rfl (by simp [hk.1]) ?_
    refine r_ix q hq (by omega) (by omega) ?_
    refine r_ldN (u8s x).toArray (by simp only [Int.toNat_natCast]; exact hxl) ?_
    refine r_pur _ (fun w' => run_eql_key _ _ hk.1 hxo.1 w') ?_
    by_cases he : k = x
    · subst he
      refine r_true (decide_eq_true rfl) ?_
      exact r_ret h.nil (j : Int) rfl (by rw [ixI_pos hxm, ixK_first hx hnot])
    · refine r_false (decide_eq_false he) ?_
      refine ⟨((j + 1 : Nat) : Int), by rw [w64 (by omega) (by omega)]; rfl, ⟨j + 1, rfl, by omega, ?_, h⟩, by omega⟩
      rw [take_succ_get hx, List.mem_append, List.mem_singleton]
      rintro (hh | hh)
      · exact hnot hh
      · exact he hh
  · have : j = ks.length := by omega
    subst this
    rw [List.take_of_length_le (Nat.le_refl _)] at hnot
    exact r_ret h.nil (-1 : Int) rfl (by unfold ixI; rw [if_neg hnot]))

theorem c_ContainsK {w : World} {s : Sl} {ks : List (List Int)} {k : List Int} (hs : KsR w s ks) (hk : keyOk k) (hmax : ks.length ≤ 1073741824) : Ret Tryz.prog n_slices_Contains_sl_impl_Key_impl_Key [.slice s.a s.n s.c, .agg (u8s k).toArray] w [.bool] (fun r _ => r = decide (k ∈ ks)) := slices_Contains_sl_impl_Key_impl_Key_calls _ _ (by
  unfold slices_Contains_sl_impl_Key_impl_Key
  refine r_new (At.refl w) fun b3 w1 h => ?_
  have h : At w w1 [(b3, (u8s k).toArray, ty_impl_Key)] := h
  refine r_ldA h 0 rfl rfl (by simp [hk.1]) ?_
  refine r_call h (c_IndexK (hs.at h) hk hmax) fun r w2 h _ hr => ?_
  subst hr
  exact r_ret h.nil _ rfl (ixI_ge ks k))

end Go.Proofs.YtkifkdkjljcclaaGreat

namespace Go.Proofs.YtkifkdkjljcclaaGreat
open Go.Sx Go.RowKit

def ledC (s t sk : Sl) : Array Value := #[.slice s.a s.n s.c, .slice t.a t.n t.c, .slice sk.a sk.n sk.c]
structure LedR (w : World) (p : Addr) (rs : List CR) (ms : List ER) (K : List (List Int)) : Prop where
  ex : ∃ s t sk, ldOk w 1 (p.add 0) .slice s ∧ ldOk w 1 (p.add 1) .slice t ∧ ldOk w 1 (p.add 2) .slice sk ∧ CsR w s rs ∧ EssR w t ms ∧ KsR w sk K
theorem LedR.below {w w' : World} {p : Addr} {rs : List CR} {ms : List ER} {K : List (List Int)} (h : LedR w p rs ms K) (hb : Below w.heap.size w w') : LedR w' p rs ms K :=
  let ⟨s, t, sk, h1, h2, h3, h4, h5, h6⟩ := h.ex
  ⟨s, t, sk, ldOk_below hb h1, ldOk_below hb h2, ldOk_below hb h3, h4.below hb, h5.below hb, h6.below hb⟩
theorem LedR.at {w w' : World} {ls : List Blk} {p : Addr} {rs : List CR} {ms : List ER} {K : List (List Int)} (h : LedR w p rs ms K) (hA : At w w' ls) : LedR w' p rs ms K := h.below hA.below
theorem ledR_own {w0 w : World} {ls : List Blk} (hA : At w0 w ls) (i : Nat) {b : Nat} {s t sk : Sl} {ty : TypeId} (hl : ls[i]? = some (b, ledC s t sk, ty)) {rs : List CR} {ms : List ER} {K : List (List Int)} (h1 : CsR w s rs) (h2 : EssR w t ms) (h3 : KsR w sk K) : LedR w ⟨b, 0, none⟩ rs ms K :=
  ⟨s, t, sk, ldOk_own (sh := .slice) hA i hl 0 rfl (by simp [Sh.emb]), ldOk_own (sh := .slice) hA i hl 1 rfl (by simp [Sh.emb]), ldOk_own (sh := .slice) hA i hl 2 rfl (by simp [Sh.emb]), h1, h2, h3⟩

def LedO (bl : Nat) (b : PBk) (s t : Sl) (L : List Blk) : Prop := ∃ sk Lk, L = [(bl, ledC s t sk, ty_impl_ledger)] ++ Lk ∧ OwnS ty_impl_Key 32 sk ((keysB b).flatMap u8s) Lk
theorem LedO.rd {w0 w : World} {ls L : List Blk} {bl : Nat} {b : PBk} {s t : Sl} (h : LedO bl b s t L) (hA : At w0 w ls) (hs : L.Sublist ls) {rs : List CR} {ms : List ER} (h1 : CsR w s rs) (h2 : EssR w t ms) : LedR w ⟨bl, 0, none⟩ rs ms (keysB b) := by
  obtain ⟨sk, Lk, rfl, hO⟩ := h
  have hL : At w0 w ([(bl, ledC s t sk, ty_impl_ledger)] ++ Lk) := hA.take _ hs
  exact ledR_own hL 0 rfl h1 h2 (ownS_ks hO hA ((List.sublist_append_right _ _).trans hs) (keysB_ok b))
end Go.Proofs.YtkifkdkjljcclaaGreat

namespace Go.Proofs.YtkifkdkjljcclaaGreat
open Go.Sx Go.RowKit

structure BkR (w : World) (p : Addr) (rs : List CR) (ms : List ER) : Prop where
  ex : ∃ s t, ldOk w 1 (p.add 0) .slice s ∧ ldOk w 1 (p.add 1) .slice t ∧ CsR w s rs ∧ EssR w t ms
theorem BkR.below {w w' : World} {p : Addr} {rs : List CR} {ms : List ER} (h : BkR w p rs ms) (hb : Below w.heap.size w w') : BkR w' p rs ms :=
  let ⟨s, t, h1, h2, h3, h4⟩ := h.ex
  ⟨s, t, ldOk_below hb h1, ldOk_below hb h2, h3.below hb, h4.below hb⟩
theorem BkR.at {w w' : World} {ls : List Blk} {p : Addr} {rs : List CR} {ms : List ER} (h : BkR w p rs ms) (hA : At w w' ls) : BkR w' p rs ms := h.below hA.below
end Go.Proofs.YtkifkdkjljcclaaGreat

namespace Go.Proofs.YtkifkdkjljcclaaGreat
open Go.Sx Go.RowKit

theorem KsR.one {w0 w : World} {ls : List Blk} {s : Sl} {k : List Int} (hS : SlO w0 w ls ty_impl_Key 32 s (Value.agg (u8s k).toArray).cells.toList) (hk : keyOk k) : KsR w s [k] := slO_ks (ks := [k]) (by simpa [Value.cells] using hS) (by simpa using hk)
end Go.Proofs.YtkifkdkjljcclaaGreat

namespace Go.Sx
open Go.RowKit (Below)
variable {P : Program} {R : Value → World → Prop} {w0 w : World} {ls : List Blk}

end Go.Sx
namespace Go.Proofs.YtkifkdkjljcclaaGreat
open Go.Sx Go.RowKit

def setW (W : Nat → List (List Int)) (n : Nat) (x : List (List Int)) : Nat → List (List Int) := fun j => if j = n then x else W j
theorem AncOf.first {b : PBk} {k x : List Int} (h : AncOf b k x) : x = k ∨ ∃ p ∈ parsB b k, AncOf b p x := by
  induction h with
  | self => exact .inl rfl
  | @up y p hy hp ih =>
    rcases ih with rfl | ⟨q, hq, hqy⟩
    · exact .inr ⟨p, hp, .self⟩
    · exact .inr ⟨q, hq, .up hqy hp⟩
end Go.Proofs.YtkifkdkjljcclaaGreat

namespace Go.Proofs.YtkifkdkjljcclaaGreat
open Go.Sx Go.RowKit

def WaysM (K : List (List Int)) (W : Nat → List (List Int)) (m : List (List Int × Value)) (LW : List Blk) : Prop :=
  ∀ k ∈ K, (m.lookup k = none ∧ W (ixK K k) = []) ∨ ∃ s L, m.lookup k = some (.slice s.a s.n s.c) ∧ W (ixK K k) ≠ [] ∧ OwnKeyS s (W (ixK K k)) L ∧ L.Sublist LW
theorem ixK_inj {K : List (List Int)} {a k : List Int} (ha : a ∈ K) (hk : k ∈ K) (h : ixK K a = ixK K k) : a = k := by
  have h1 := ixK_get ha
  have h2 := ixK_get hk
  rw [h, h2] at h1
  exact (Option.some.inj h1).symm
theorem WaysM.put {K : List (List Int)} {W : Nat → List (List Int)} {m m' : List (List Int × Value)} {LW Ls : List Blk} {own : List Int} {x : List (List Int)} {s : Sl} (h : WaysM K W m LW) (ho : own ∈ K) (hs : OwnKeyS s x Ls) (hx : x ≠ []) (hm : ∀ k', m'.lookup k' = if k' = own then some (.slice s.a s.n s.c) else m.lookup k') : WaysM K (setW W (ixK K own) x) m' (Ls ++ LW) := by
  intro k hk
  rw [hm]
  by_cases hko : k = own
  · subst hko
    rw [if_pos rfl]
    have e : setW W (ixK K k) x (ixK K k) = x := by unfold setW; rw [if_pos rfl]
    rw [e]
    exact .inr ⟨s, Ls, rfl, hx, hs, List.sublist_append_left _ _⟩
  · rw [if_neg hko]
    have e : setW W (ixK K own) x (ixK K k) = W (ixK K k) := by unfold setW; rw [if_neg (fun hh => hko (ixK_inj hk ho hh))]
    rw [e]
    rcases h k hk with h1 | ⟨s', L, h1, h2, h3, h4⟩
    · exact .inl h1
    · exact .inr ⟨s', L, h1, h2, h3, h4.trans (List.sublist_append_right _ _)⟩
theorem OwnKeyS.n {s : Sl} {ks : List (List Int)} {L : List Blk} (h : OwnKeyS s ks L) : s.n = ks.length := by
  have := h.1.1
  rw [flatMap_length (z := 32) (fun x hx => by rw [u8s_len]; exact (h.2 x hx).1)] at this
  omega
theorem OwnKeyS.ks {w0 w : World} {ls L : List Blk} {s : Sl} {ks : List (List Int)} (h : OwnKeyS s ks L) (hA : At w0 w ls) (hs : L.Sublist ls) : KsR w s ks := ownS_ks h.1 hA hs h.2
end Go.Proofs.YtkifkdkjljcclaaGreat

namespace Go.Sx
end Go.Sx
namespace Go.Proofs.YtkifkdkjljcclaaGreat
open Go.Sx Go.RowKit

structure WaysA (W : Nat → List (List Int)) (vs : List Sl) (LW : List Blk) : Prop where
  own : ∀ j s, vs[j]? = some s → ∃ L, OwnKeyS s (W j) L ∧ L.Sublist LW
theorem WaysA.set {W : Nat → List (List Int)} {vs : List Sl} {LW Ls : List Blk} {x : List (List Int)} {s : Sl} (h : WaysA W vs LW) (n : Nat) (hs : OwnKeyS s x Ls) : WaysA (setW W n x) (vs.set n s) (Ls ++ LW) := ⟨fun j t ht => by
  rw [List.getElem?_set] at ht
  unfold setW
  by_cases hjn : n = j
  · rw [if_pos hjn] at ht
    rw [if_pos hjn.symm]
    split at ht
    · cases ht
      exact ⟨Ls, hs, List.sublist_append_left _ _⟩
    · cases ht
  · rw [if_neg hjn] at ht
    rw [if_neg (fun hh => hjn hh.symm)]
    obtain ⟨L, h1, h2⟩ := h.own j t ht
    exact ⟨L, h1, h2.trans (List.sublist_append_right _ _)⟩⟩
end Go.Proofs.YtkifkdkjljcclaaGreat

namespace Go.Proofs.YtkifkdkjljcclaaGreat
open Go.Sx Go.RowKit

theorem KsR.none (w : World) : KsR w ⟨Option.none, 0, 0⟩ [] := ⟨SlOf.nil (by omega), by simp⟩

end Go.Proofs.YtkifkdkjljcclaaGreat

namespace Go.Sx
open Go.RowKit (Below)
def Keeps (w w' : World) : Prop := ∀ (r : Nat) (o : Obj), w.heap[r]? = some o → (∀ c e, o ≠ .cells c e (0, 0)) → w'.heap[r]? = some o
theorem Keeps.refl (w : World) : Keeps w w := fun _ _ h _ => h
theorem Keeps.trans {w w' w'' : World} (h : Keeps w w') (g : Keeps w' w'') : Keeps w w'' := fun r o ho hn => g r o (h r o ho hn) hn
theorem Keeps.of {w w' : World} (h : Below w.heap.size w w') : Keeps w w' := fun _ _ ho _ => h.keeps ho
section
variable {P : Program} {R : Value → World → Prop} {w0 w : World} {ls : List Blk}
end
def prsV : Nat → List Value → List (Nat × Value)
  | _, [] => []
  | k, v :: r => (k, v) :: prsV (k + 1) r
theorem fill_prs : ∀ (vs : List Value) (k : Nat) (cs : Array Value), (∀ v ∈ vs, v.cells = #[v]) → k + vs.length ≤ cs.size → Instr.fill (fun i => some (i * 1, 1)) cs (prsV k vs) = some (cs.toList.take k ++ vs ++ cs.toList.drop (k + vs.length)).toArray
  | [], k, cs, _, h => by
    simp [prsV, Instr.fill]
  | v :: r, k, cs, hv, h => by
    rw [List.length_cons] at h
    have hc := hv v (by simp)
    show Instr.fill _ cs ((k, v) :: prsV (k + 1) r) = _
    rw [fill_one (off := k) (z := 1) (by rw [hc]; rfl) (by omega) _ k (by simp) _]
    rw [fill_prs r (k + 1) _ (fun x hx => hv x (by simp [hx])) (by simp [hc]; omega)]
    have hl : (cs.toList.take k ++ [v]).length = k + 1 := by simp; omega
    have e : cs.toList.take k ++ v.cells.toList ++ cs.toList.drop (k + 1) = (cs.toList.take k ++ [v]) ++ cs.toList.drop (k + 1) := by rw [hc]
    simp only [e]
    congr 2
    have hd : (cs.toList.take k ++ [v]).drop (k + 1 + r.length) = [] := List.drop_eq_nil_of_le (by rw [hl]; omega)
    rw [List.take_left' hl, List.drop_append, hl, hd, List.nil_append, List.drop_drop, List.length_cons, show k + 1 + (k + 1 + r.length - (k + 1)) = k + (r.length + 1) by omega]
    simp
theorem run_bsV {P : Program} {t e by_ : Nat} (hT : SlT P t e 1 by_) (vs : List Value) (hv : ∀ v ∈ vs, v.cells = #[v]) (hn : vs.length ≤ 4096) (hne : vs ≠ []) (w : World) :
    (Instr.buildSlice t vs.length (prsV 0 vs).toArray).run P w = .ok (.slice (some ⟨w.heap.size, 0, none⟩) vs.length vs.length) (w.alloc (.cells vs.toArray e)) := by
  obtain ⟨i, zv, hi, hzv, hsz, hby, hzs⟩ := hT.ex
  have hf : ∀ cs : Array Value, cs.size = vs.length → Instr.fill (fun i => some (i * 1, 1)) cs (prsV 0 vs) = some vs.toArray := by
    intro cs hcs
    rw [fill_prs vs 0 cs hv (by omega)]
    simp
    omega
  have h0 : ¬ (16777216 < vs.length) := by omega
  simp [Instr.buildSlice, run_underlying hT.ut, sizeOf, typeInfo, hi, hsz, h0, zeroValue, hzv, newRow, hne]
  simp only [Nat.mul_one] at hf
  rw [hf _ (by simp [hzs])]
  simp
end Go.Sx
namespace Go.Proofs.YtkifkdkjljcclaaGreat
open Go.Sx Go.RowKit

end Go.Proofs.YtkifkdkjljcclaaGreat
