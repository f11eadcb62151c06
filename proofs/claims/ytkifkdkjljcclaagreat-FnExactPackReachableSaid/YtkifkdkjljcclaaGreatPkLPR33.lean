/- What is reachable: plain. What is reachable: the program. What is reachable: the reference. The reference's sorting of keys. -/
import Derived.Test.YtkifkdkjljcclaaGreatPkLPR29
import Derived.Test.YtkifkdkjljcclaaGreatPkLPR32
namespace Go.Proofs.YtkifkdkjljcclaaGreat
open Go.Sx Go.RowKit

def meetK (s : List (List Int)) (k : List Int) : List (List Int) := if k ∈ s then s else s ++ [k]
theorem meetK_mem (s : List (List Int)) (k x : List Int) : x ∈ meetK s k ↔ x ∈ s ∨ x = k := by
  unfold meetK
  split
  · constructor
    · exact Or.inl
    · rintro (h | rfl) <;> assumption
  · simp
theorem meetK_nodup {s : List (List Int)} (h : s.Nodup) (k : List Int) : (meetK s k).Nodup := by
  unfold meetK
  split
  · exact h
  · rename_i hk
    exact List.nodup_append.2 ⟨h, by simp, fun a ha b hb => by rw [List.mem_singleton.1 hb]; exact fun e => hk (e ▸ ha)⟩
theorem meetK_grow (s : List (List Int)) (k : List Int) : ∃ t, meetK s k = s ++ t := by
  unfold meetK
  split
  · exact ⟨[], by simp⟩
  · exact ⟨[k], rfl⟩
theorem meets_mem (l : List (List Int)) (x : List Int) : ∀ s, x ∈ l.foldl meetK s ↔ x ∈ s ∨ x ∈ l := by
  induction l with
  | nil => simp
  | cons k r ih => intro s; rw [List.foldl_cons, ih, meetK_mem, List.mem_cons]; exact or_assoc
theorem meets_nodup (l : List (List Int)) : ∀ {s : List (List Int)}, s.Nodup → (l.foldl meetK s).Nodup := by
  induction l with
  | nil => exact fun h => h
  | cons k r ih => exact fun h => ih (meetK_nodup h k)
theorem meets_grow (l : List (List Int)) : ∀ s, ∃ t, l.foldl meetK s = s ++ t := by
  induction l with
  | nil => exact fun s => ⟨[], by simp⟩
  | cons k r ih =>
    intro s
    obtain ⟨t, h⟩ := meetK_grow s k
    obtain ⟨u, h'⟩ := ih (meetK s k)
    exact ⟨t ++ u, by rw [List.foldl_cons, h', h, List.append_assoc]⟩

def nextOf (B : List PB) (k : List Int) : List (List Int) := if k ∈ keysOf B then links (blobAt B k) else []
theorem nextOf_sub (B : List PB) (k : List Int) : ∀ x ∈ nextOf B k, x ∈ B.flatMap links := by
  intro x hx
  unfold nextOf at hx
  split at hx
  · unfold blobAt at hx
    rcases Nat.lt_or_ge (posK (keysOf B) k) B.length with h | h
    · refine List.mem_flatMap.2 ⟨_, ?_, hx⟩
      simp only [List.getD, List.getElem?_eq_getElem h, Option.getD_some]
      exact List.getElem_mem _
    · simp only [List.getD, List.getElem?_eq_none h, Option.getD_none] at hx
      cases hx
  · cases hx
inductive GetsTo (B : List PB) (roots : List (List Int)) : List Int → Prop
  | root {k : List Int} : k ∈ roots → GetsTo B roots k
  | link {k l : List Int} : GetsTo B roots k → l ∈ nextOf B k → GetsTo B roots l
theorem GetsTo.sub {B : List PB} {roots : List (List Int)} {k : List Int} (h : GetsTo B roots k) : k ∈ roots ++ B.flatMap links := by
  cases h with
  | root h => exact List.mem_append_left _ h
  | link _ h => exact List.mem_append_right _ (nextOf_sub B _ _ h)

structure WalkOk (B : List PB) (roots : List (List Int)) (i : Nat) (s : List (List Int)) : Prop where
  nodup : s.Nodup
  reach : ∀ k ∈ s, GetsTo B roots k
  roots : ∀ k ∈ roots, k ∈ s
  done : ∀ k ∈ s.take i, ∀ l ∈ nextOf B k, l ∈ s
  le : i ≤ s.length
theorem WalkOk.first (B : List PB) (roots : List (List Int)) : WalkOk B roots 0 (roots.foldl meetK []) :=
  ⟨meets_nodup _ List.nodup_nil, fun k hk => .root (by simpa using (meets_mem roots k []).1 hk), fun k hk => (meets_mem roots k []).2 (.inr hk), by simp, Nat.zero_le _⟩
theorem WalkOk.next {B : List PB} {roots s : List (List Int)} {i : Nat} (h : WalkOk B roots i s) {k : List Int} (hk : s[i]? = some k) : WalkOk B roots (i + 1) ((nextOf B k).foldl meetK s) := by
  obtain ⟨t, ht⟩ := meets_grow (nextOf B k) s
  have hi := (List.getElem?_eq_some_iff.1 hk).1
  refine ⟨meets_nodup _ h.nodup, fun x hx => ?_, fun x hx => (meets_mem _ _ _).2 (.inl (h.roots x hx)), fun x hx l hl => ?_, by rw [ht, List.length_append]; omega⟩
  · rcases (meets_mem _ _ _).1 hx with hx | hx
    · exact h.reach x hx
    · exact .link (h.reach k (List.mem_of_getElem? hk)) hx
  · rw [ht, List.take_append_of_le_length (by omega), take_succ_get hk] at hx
    refine (meets_mem _ _ _).2 ?_
    rcases List.mem_append.1 hx with hx | hx
    · exact .inl (h.done x hx l hl)
    · rw [List.mem_singleton.1 hx] at hl
      exact .inr hl
theorem WalkOk.len {B : List PB} {roots s : List (List Int)} {i : Nat} (h : WalkOk B roots i s) : s.length ≤ roots.length + (B.flatMap links).length := by
  have := nodup_le h.nodup fun x hx => (h.reach x hx).sub
  rwa [List.length_append] at this
theorem WalkOk.all {B : List PB} {roots s : List (List Int)} {i : Nat} (h : WalkOk B roots i s) (hi : s.length ≤ i) (k : List Int) : k ∈ s ↔ GetsTo B roots k := by
  refine ⟨h.reach k, fun hk => ?_⟩
  have hd := h.done
  rw [List.take_of_length_le hi] at hd
  induction hk with
  | root hk => exact h.roots _ hk
  | link _ hl ih => exact hd _ ih _ hl

structure ListOk (B : List PB) (roots : List (List Int)) (i : Nat) (s D : List (List Int)) : Prop where
  is : s = roots ++ D.flatMap (nextOf B)
  nodup : D.Nodup
  inB : ∀ k ∈ D, k ∈ keysOf B
  sub : ∀ k ∈ D, k ∈ s.take i
  found : ∀ k ∈ s.take i, k ∈ keysOf B → k ∈ D
  reach : ∀ k ∈ s, GetsTo B roots k
  le : i ≤ s.length
theorem ListOk.first (B : List PB) (roots : List (List Int)) : ListOk B roots 0 roots [] := ⟨by simp, List.nodup_nil, by simp, by simp, by simp, fun k hk => .root hk, Nat.zero_le _⟩
theorem ListOk.skip {B : List PB} {roots s D : List (List Int)} {i : Nat} (h : ListOk B roots i s D) {k : List Int} (hk : s[i]? = some k) (hD : k ∈ keysOf B → k ∈ D) : ListOk B roots (i + 1) s D := by
  have hi := (List.getElem?_eq_some_iff.1 hk).1
  refine ⟨h.is, h.nodup, h.inB, fun x hx => ?_, fun x hx hB => ?_, h.reach, by omega⟩
  · rw [take_succ_get hk]
    exact List.mem_append_left _ (h.sub x hx)
  · rw [take_succ_get hk] at hx
    rcases List.mem_append.1 hx with hx | hx
    · exact h.found x hx hB
    · rw [List.mem_singleton.1 hx] at hB ⊢
      exact hD hB
theorem ListOk.find {B : List PB} {roots s D : List (List Int)} {i : Nat} (h : ListOk B roots i s D) {k : List Int} (hk : s[i]? = some k) (hB : k ∈ keysOf B) (hD : k ∉ D) : ListOk B roots (i + 1) (s ++ links (blobAt B k)) (D ++ [k]) := by
  have hi := (List.getElem?_eq_some_iff.1 hk).1
  have hn : nextOf B k = links (blobAt B k) := if_pos hB
  have ht : (s ++ links (blobAt B k)).take (i + 1) = s.take i ++ [k] := by rw [List.take_append_of_le_length (by omega), take_succ_get hk]
  refine ⟨by rw [List.flatMap_append, ← List.append_assoc, ← h.is, List.flatMap_cons, List.flatMap_nil, List.append_nil, hn], List.nodup_append.2 ⟨h.nodup, by simp, fun a ha b hb => by rw [List.mem_singleton.1 hb]; exact fun e => hD (e ▸ ha)⟩, fun x hx => ?_, fun x hx => ?_, fun x hx hxB => ?_, fun x hx => ?_, by rw [List.length_append]; omega⟩
  · rcases List.mem_append.1 hx with hx | hx
    · exact h.inB x hx
    · rw [List.mem_singleton.1 hx]; exact hB
  · rw [ht]
    rcases List.mem_append.1 hx with hx | hx
    · exact List.mem_append_left _ (h.sub x hx)
    · exact List.mem_append_right _ hx
  · rw [ht] at hx
    rcases List.mem_append.1 hx with hx | hx
    · exact List.mem_append_left _ (h.found x hx hxB)
    · exact List.mem_append_right _ hx
  · rcases List.mem_append.1 hx with hx | hx
    · exact h.reach x hx
    · exact .link (h.reach k (List.mem_of_getElem? hk)) (hn ▸ hx)
theorem flat_le {α β : Type} {f : α → List β} {n : Nat} : ∀ {l : List α}, (∀ x ∈ l, (f x).length ≤ n) → (l.flatMap f).length ≤ l.length * n
  | [], _ => by simp
  | x :: l, h => by
    have h1 := h x (by simp)
    have h2 := flat_le (l := l) fun y hy => h y (by simp [hy])
    rw [List.flatMap_cons, List.length_append, List.length_cons, Nat.add_mul]
    omega
theorem blobAt_len {B : List PB} (hd : ∀ b ∈ B, b.data.length ≤ 1024) (k : List Int) : (blobAt B k).data.length ≤ 1024 := by
  unfold blobAt
  rcases Nat.lt_or_ge (posK (keysOf B) k) B.length with h | h
  · simp only [List.getD, List.getElem?_eq_getElem h, Option.getD_some]
    exact hd _ (List.getElem_mem _)
  · simp [List.getD, List.getElem?_eq_none h]
theorem nextOf_len {B : List PB} (hd : ∀ b ∈ B, b.data.length ≤ 1024) (k : List Int) : (nextOf B k).length ≤ 1024 := by
  unfold nextOf
  split
  · exact Nat.le_trans (links_len _) (blobAt_len hd k)
  · simp
theorem ListOk.len {B : List PB} {roots s D : List (List Int)} {i : Nat} (h : ListOk B roots i s D) (hd : ∀ b ∈ B, b.data.length ≤ 1024) : s.length ≤ roots.length + B.length * 1024 := by
  have h1 := nodup_le h.nodup h.inB
  rw [keysOf_len] at h1
  have h2 := flat_le (l := D) (f := nextOf B) (n := 1024) fun x _ => nextOf_len hd x
  have := Nat.mul_le_mul_right 1024 h1
  have e := congrArg List.length h.is
  rw [List.length_append] at e
  omega
theorem ListOk.all {B : List PB} {roots s D : List (List Int)} {i : Nat} (h : ListOk B roots i s D) (hi : s.length ≤ i) (k : List Int) : k ∈ s ↔ GetsTo B roots k := by
  refine ⟨h.reach k, fun hk => ?_⟩
  have hd := h.found
  rw [List.take_of_length_le hi] at hd
  induction hk with
  | root hk => rw [h.is]; exact List.mem_append_left _ hk
  | @link k l _ hl ih =>
    have hB : k ∈ keysOf B := by
      unfold nextOf at hl
      split at hl
      · assumption
      · cases hl
    rw [h.is]
    exact List.mem_append_right _ (List.mem_flatMap.2 ⟨k, hd k ih hB, hl⟩)
theorem ListOk.flag {B : List PB} {roots s D : List (List Int)} {i : Nat} (h : ListOk B roots i s D) (hi : s.length ≤ i) {k : List Int} (hB : k ∈ keysOf B) : k ∈ D ↔ GetsTo B roots k := by
  rw [← h.all hi]
  have hd := h.found
  have hs := h.sub
  rw [List.take_of_length_le hi] at hd hs
  exact ⟨hs k, fun hk => hd k hk hB⟩

def putK (s : List (List Int)) (k : List Int) : List (List Int) := if k ∈ s then s else insAt (posK s k) k s
def sortK (l : List (List Int)) : List (List Int) := l.foldl putK []
theorem mem_insAt' {i : Nat} {x y : List Int} {l : List (List Int)} : y ∈ insAt i x l ↔ y = x ∨ y ∈ l := by
  refine ⟨mem_insAt, fun h => ?_⟩
  unfold insAt
  simp only [List.mem_append, List.mem_singleton]
  rcases h with rfl | h
  · exact .inl (.inr rfl)
  · rw [← List.take_append_drop i l, List.mem_append] at h
    rcases h with h | h
    · exact .inl (.inl h)
    · exact .inr h
theorem putK_asc {s : List (List Int)} (h : Asc s) (k : List Int) : Asc (putK s k) := by
  unfold putK
  split
  · exact h
  · exact asc_insAt h (by assumption)
theorem putK_mem (s : List (List Int)) (k x : List Int) : x ∈ putK s k ↔ x = k ∨ x ∈ s := by
  unfold putK
  split
  · constructor
    · exact Or.inr
    · rintro (rfl | h) <;> assumption
  · exact mem_insAt'
theorem puts_asc (l : List (List Int)) : ∀ {s : List (List Int)}, Asc s → Asc (l.foldl putK s) := by
  induction l with
  | nil => exact fun h => h
  | cons k r ih => exact fun h => ih (putK_asc h k)
theorem puts_mem (l : List (List Int)) (x : List Int) : ∀ s, x ∈ l.foldl putK s ↔ x ∈ s ∨ x ∈ l := by
  induction l with
  | nil => simp
  | cons k r ih =>
    intro s
    rw [List.foldl_cons, ih, putK_mem, List.mem_cons]
    constructor
    · rintro ((h | h) | h)
      · exact .inr (.inl h)
      · exact .inl h
      · exact .inr (.inr h)
    · rintro (h | h | h)
      · exact .inl (.inr h)
      · exact .inl (.inl h)
      · exact .inr h
theorem sortK_asc (l : List (List Int)) : Asc (sortK l) := puts_asc l (by unfold Asc; exact List.Pairwise.nil)
theorem sortK_mem (l : List (List Int)) (x : List Int) : x ∈ sortK l ↔ x ∈ l := by unfold sortK; rw [puts_mem]; simp
end Go.Proofs.YtkifkdkjljcclaaGreat

namespace Go.Proofs.YtkifkdkjljcclaaGreat
open Go.Sx Go.RowKit

theorem ut_mapB : (Tryz.prog).underlying ty_map_impl_Key_bool = some (.map ty_impl_Key ty_bool) := by kernel_rfl
theorem zero_bool : ((Tryz.prog).info? ty_bool).bind (·.zero) = some (.bool false) := by kernel_rfl
def yesOf (s : List (List Int)) : List (List Int × Value) := s.map fun k => (k, .bool true)
theorem yesOf_keys (s : List (List Int)) : (yesOf s).map (·.1) = s := by
  induction s with
  | nil => rfl
  | cons a r ih => exact congrArg (List.cons a) ih
theorem look_yes {s : List (List Int)} (hs : ∀ k ∈ s, keyOk k) {k : List Int} (hk : keyOk k) {w : World} {r : Nat} {o : Obj} (hM : w.heap[r]? = some o) (hm : MapIs o (yesOf s)) :
    (Instr.lookup ty_map_impl_Key_bool (.map (some r)) (.agg (u8s k).toArray) false).run Tryz.prog w = .ok (.bool (decide (k ∈ s))) w := by
  have hn : ∀ p ∈ yesOf s, p.1.length = 32 := fun p hp => (hs _ (by rw [← yesOf_keys s]; exact List.mem_map_of_mem hp)).1
  have hlook := run_lookup_u8 (w := w) ut_mapB ut_Key tyOf_byte zero_bool hk.1 hM hm hn false
  by_cases hin : k ∈ s
  · have hl : (yesOf s).lookup k = some (.bool true) := by
      clear hlook hn hm hM hs
      induction s with
      | nil => cases hin
      | cons a r ih =>
        by_cases h : k = a
        · subst h
          exact List.lookup_cons_self
        · have hb : (k == a) = false := beq_eq_false_iff_ne.2 h
          show (match (k == a) with | true => some (Value.bool true) | false => (yesOf r).lookup k) = _
          rw [hb]
          exact ih (by simpa [h] using hin)
    rw [hl] at hlook
    rw [decide_eq_true hin]
    exact hlook
  · have hl : (yesOf s).lookup k = none := lookup_none (by rw [yesOf_keys]; exact hin)
    rw [hl] at hlook
    rw [decide_eq_false hin]
    exact hlook

abbrev seenB (b5 b6 rm : Nat) (so : Sl) : List Blk := [(b6, #[.map (some rm)], ty_map_impl_Key_bool), (b5, #[.slice so.a so.n so.c], ty_sl_impl_Key)]
def Seen (w0 w : World) (b5 b6 rm : Nat) (ls : List Blk) (s : List (List Int)) : Prop :=
  ∃ (so : Sl) (Lo : List Blk) (o : Obj), At w0 w (seenB b5 b6 rm so ++ (Lo ++ ls)) ∧ OwnS ty_impl_Key 32 so (s.flatMap u8s) Lo ∧ so.n = s.length ∧ w.heap[rm]? = some o ∧ MapIs o (yesOf s)

theorem c_meet {w0 w : World} {ls : List Blk} {b5 b6 rm : Nat} {s : List (List Int)} {k : List Int} (h : Seen w0 w b5 b6 rm ls s) (hrm : w0.heap.size ≤ rm) (hsk : ∀ k ∈ s, keyOk k) (hk : keyOk k) (hmax : s.length ≤ 1073741824) :
    Calls Tryz.prog n_ptr_impl_shop_reach_1 [.agg (u8s k).toArray, .pointer (some ⟨b6, 0, none⟩), .pointer (some ⟨b5, 0, none⟩)].toArray w fun e w' => ∃ v, e = .returned v ∧ v = .tuple #[] ∧ Seen w0 w' b5 b6 rm ls (meetK s k) := ptr_impl_shop_reach_1_calls _ _ _ (by
  unfold ptr_impl_shop_reach_1
  obtain ⟨so, Lo, o, h, hO, hsn, hM, hm⟩ := h
  refine r_newM h hM fun b3 w1 h hM => ?_
  have h : At w0 w1 ((b3, (u8s k).toArray, ty_impl_Key) :: (b6, #[.map (some rm)], ty_map_impl_Key_bool) :: (b5, #[.slice so.a so.n so.c], ty_sl_impl_Key) :: (Lo ++ ls)) := h
  refine r_ld h 1 rfl rfl (.map (some rm)) (by simp [Sh.emb]) rfl ?_
  refine r_ldA h 0 rfl rfl (by simp [hk.1]) ?_
  refine r_semL (l := [.bool]) (decide (k ∈ s)) _ (look_yes hsk hk hM hm) ?_
  by_cases hin : k ∈ s
  · refine r_false (by simp [hin]) ?_
    refine r_retR ⟨rfl, so, Lo, o, h.tail, ?_⟩
    unfold meetK
    rw [if_pos hin]
    exact ⟨hO, hsn, hM, hm⟩
  · refine r_true (by simp [hin]) ?_
    have hn : ∀ p ∈ yesOf s, p.1.length = 32 := fun p hp => (hsk _ (by rw [← yesOf_keys s]; exact List.mem_map_of_mem hp)).1
    refine r_ld h 1 rfl rfl (.map (some rm)) (by simp [Sh.emb]) rfl ?_
    refine r_ldA h 0 rfl rfl (by simp [hk.1]) ?_
    refine r_mapNew (k := k) (v := .bool true) ut_mapB ut_Key tyOf_byte hk.1 h hM hm hrm hn (lookup_none (by rw [yesOf_keys]; exact hin)) fun w2 o' h hM hm' => ?_
    refine r_ld h 2 rfl rfl so (by simp [Sh.emb]) rfl ?_
    refine r_ldA h 0 rfl rfl (by simp [hk.1]) ?_
    have h : At w0 w2 ([(b3, (u8s k).toArray, ty_impl_Key), (b6, #[.map (some rm)], ty_map_impl_Key_bool), (b5, #[.slice so.a so.n so.c], ty_sl_impl_Key)] ++ (Lo ++ ls)) := h
    refine r_pushM hM hm'.no T_sl_Key (hO.slo h.pl1) (v := .agg (u8s k).toArray) (by simp [Value.cells, hk.1]) (by omega) (by simpa [Value.cells] using u8s_one) (by omega) (by omega) fun y13 w3 hS hn hM => ?_
    obtain ⟨Lo', hO', h⟩ := hS.split
    have h := h.ps1
    refine r_stM hM hm'.no h 2 rfl rfl (by simp) rfl fun w4 h hM => ?_
    have h : At w0 w4 ([(b3, (u8s k).toArray, ty_impl_Key), (b6, #[.map (some rm)], ty_map_impl_Key_bool), (b5, #[.slice y13.a y13.n y13.c], ty_sl_impl_Key)] ++ (Lo' ++ ls)) := h
    have hme : meetK s k = s ++ [k] := if_neg hin
    refine r_retR ⟨rfl, y13, Lo', o', At.tail h, ?_⟩
    rw [hme]
    refine ⟨by simpa [Value.cells, List.flatMap_append] using hO', by rw [List.length_append]; simp only [List.length_cons, List.length_nil]; omega, hM, ?_⟩
    unfold yesOf at hm' ⊢
    rw [List.map_append]
    exact hm')

theorem Seen.at_ {w0 w : World} {b5 b6 rm : Nat} {ls : List Blk} {s : List (List Int)} (h : Seen w0 w b5 b6 rm ls s) : ∃ L, At w0 w (L ++ ls) := by
  obtain ⟨so, Lo, o, h, _⟩ := h
  exact ⟨_, (List.append_assoc _ _ _).symm ▸ h⟩

theorem mu_dec {N j : Nat} (h : j < N) : ((N : Int) - ((j + 1 : Nat) : Int)).toNat < ((N : Int) - (j : Int)).toNat := by omega

theorem c_reach {w : World} {p : Addr} {B : List PB} {bs : List BR} {x : Sl} {roots : List (List Int)} (hs : ShopR w p (keysOf B) bs) (hpb : bs.map BR.pb = B) (hv : validS B) (hx : KsR w x roots) (hmax : roots.length ≤ 1000000) :
    Ret Tryz.prog n_ptr_impl_shop_reach [.pointer (some p), .slice x.a x.n x.c] w [.slice] (fun r w' => ∃ out : List (List Int), (∀ k, k ∈ out ↔ GetsTo B roots k) ∧ out.Nodup ∧ (∀ k ∈ out, keyOk k) ∧ out.length ≤ roots.length + 131072 ∧ SlO w w' [] ty_impl_Key 32 r (out.flatMap u8s) ∧ r.n = out.length) := ptr_impl_shop_reach_calls _ _ (by
  unfold ptr_impl_shop_reach
  have hB128 : B.length ≤ 128 := hv.1
  have hkl : (keysOf B).length = B.length := keysOf_len B
  have hdl := hv.2.1
  have hasc : Asc (keysOf B) := hv.2.2
  have hbl : bs.length = B.length := by rw [← hpb]; simp
  have hxn := hx.n
  have hlt : (B.flatMap links).length ≤ 131072 := by
    have := links_total hdl
    omega
  have hbok : ∀ b ∈ B, bytesOk b.data := fun b hb => by
    rw [← hpb] at hb
    obtain ⟨y, hy, rfl⟩ := List.mem_map.1 hb
    obtain ⟨sk, sb, _, _, _, hBs⟩ := hs.ex
    exact (hBs.ok y hy).bytes.ok
  have hallok : ∀ k, GetsTo B roots k → keyOk k := fun k hk => by
    rcases List.mem_append.1 hk.sub with h | h
    · exact hx.ok k h
    · obtain ⟨b, hb, hkb⟩ := List.mem_flatMap.1 h
      exact links_ok (hbok b hb) k hkb
  refine r_bs0 T_sl_Key (At.refl w) fun y15 w1 hy hyn => ?_
  obtain ⟨Lo, hOo, h⟩ := hy.split
  refine r_makeMap h fun rm w2 h hM hrm => ?_
  refine r_newM h hM fun b5 w3 h hM => ?_
  refine r_newM h hM fun b6 w4 h hM => ?_
  refine r_stM hM (MapIs.nil 0).no h 1 rfl rfl (by simp [Value.cells]) rfl fun w5 h hM => ?_
  refine r_stM hM (MapIs.nil 0).no h 0 rfl rfl (by simp [Value.cells]) rfl fun w6 h hM => ?_
  have h : At w w6 (seenB b5 b6 rm y15 ++ (Lo ++ [])) := h
  have hseen : Seen w w6 b5 b6 rm [] [] := ⟨y15, Lo, _, h, by simpa using hOo, hyn, hM, MapIs.nil 0⟩
  refine r_loop (σ := Int) (fun i w' => ∃ j : Nat, i = j ∧ j ≤ roots.length ∧ Seen w w' b5 b6 rm [] ((roots.take j).foldl meetK [])) (fun i _ => (x.n - i).toNat) 0 rfl ⟨0, rfl, by omega, by simpa using hseen⟩ ?_
  clear hM h hOo hy hseen
  rintro i w7 ⟨j, rfl, hj, hse⟩
  refine r_any fun _ => ?_
  refine r_if ((j : Int) < (x.n : Int)) rfl (fun hlt' => ?_) (fun hge => ?_)
  · obtain ⟨L, hA⟩ := hse.at_
    obtain ⟨k, q, hk, hkm, hq, hko, hkc⟩ := (hx.at hA).get (i := j) (by omega)
    refine r_ix q hq (by omega) (by omega) ?_
    refine r_ldN (u8s k).toArray (by simp only [Int.toNat_natCast]; exact hkc) ?_
    obtain ⟨so, Lo, o, h, hO, hsn, hM, hm⟩ := hse
    refine r_newM h hM fun b9 w8 h hM => ?_
    refine r_stAM hM hm.no h 0 rfl rfl (by simp [hko.1]) (by simp [Value.cells]) (by simpa using u8s_one) fun w9 h hM => ?_
    refine r_ldA h 0 rfl rfl (by simp [hko.1]) ?_
    have hmem : ∀ y ∈ (roots.take j).foldl meetK [], y ∈ roots := fun y hy => by
      rcases (meets_mem _ _ _).1 hy with h | h
      · cases h
      · exact List.mem_of_mem_take h
    have hlen := nodup_le (meets_nodup (roots.take j) List.nodup_nil) hmem
    refine r_callVR (by kernel_rfl) (c_meet (k := k) ⟨so, Lo, o, At.tail h, hO, hsn, hM, hm⟩ hrm (fun y hy => hx.ok y (hmem y hy)) hko (by omega)) ?_
    rintro v w10 ⟨rfl, hse⟩
    refine ⟨(), rfl, ((j + 1 : Nat) : Int), by rw [w64 (by omega) (by omega)]; rfl, ⟨j + 1, rfl, by omega, ?_⟩, by omega⟩
    rw [take_succ_get hk, List.foldl_append]
    exact hse
  · have hjl : j = roots.length := by omega
    subst hjl
    rw [List.take_of_length_le (Nat.le_refl _)] at hse
    obtain ⟨N, hN⟩ : ∃ N : Nat, N = roots.length + (B.flatMap links).length + 1 := ⟨_, rfl⟩
    refine r_loop (σ := Int) (fun i w' => ∃ (j : Nat) (s : List (List Int)), i = j ∧ WalkOk B roots j s ∧ Seen w w' b5 b6 rm [] s) (fun i _ => ((N : Int) - i).toNat) 0 rfl ⟨0, _, rfl, WalkOk.first B roots, hse⟩ ?_
    clear hse
    rintro i w8 ⟨j, s, rfl, hok, hse⟩
    refine r_any fun _ => ?_
    have hsl := hok.len
    have hjl := hok.le
    have hsk : ∀ k ∈ s, keyOk k := fun k hk => hallok k (hok.reach k hk)
    obtain ⟨so, Lo, o, h, hO, hsn, hM, hm⟩ := hse
    refine r_ld h 1 rfl rfl so (by simp [Sh.emb]) rfl ?_
    refine r_if ((j : Int) < (so.n : Int)) rfl (fun hlt' => ?_) (fun hge' => ?_)
    · refine r_ld h 1 rfl rfl so (by simp [Sh.emb]) rfl ?_
      obtain ⟨k, q, hk, hkm, hq, hko, hkc⟩ := (ownS_ks hO h.pl1 (List.sublist_append_left _ _) hsk).get (i := j) (by omega)
      refine r_ix q hq (by omega) (by omega) ?_
      refine r_ldN (u8s k).toArray (by simp only [Int.toNat_natCast]; exact hkc) ?_
      refine r_call h (c_get (hs.at h) hasc (by omega) hko (by omega)) fun r40 w9 h hb9 hr => ?_
      have hM := hb9.keeps hM
      refine r_newM h hM fun b11 w10 h hM => ?_
      have hnext := hok.next hk
      by_cases hkB : k ∈ keysOf B
      · obtain ⟨bb, hbb, rfl⟩ : ∃ bb, bs[posK (keysOf B) k]? = some bb ∧ r40 = (bb.cells.toArray, true) := by
          rcases hr with ⟨_, bb, h1, h2⟩ | ⟨hn, _⟩
          · exact ⟨bb, h1, h2⟩
          · exact absurd hkB hn
        refine r_stAM hM hm.no h 0 rfl rfl rfl rfl (by simpa using cells_one bb) fun w11 h hM => ?_
        refine r_true rfl ?_
        refine r_ldA h 0 rfl rfl rfl ?_
        have h := At.tail h
        have hBb := pb_get hpb hbb
        have hbe : blobAt B k = bb.pb := by unfold blobAt; simp [List.getD, hBb]
        have hdb := hdl bb.pb (List.mem_of_getElem? hBb)
        simp only [BR.pb] at hdb
        have hbm := List.mem_of_getElem? hbb
        obtain ⟨sk, sb, _, _, _, hBs⟩ := hs.ex
        have hbo := fun {w' : World} {ls : List Blk} (h : At w w' ls) => (hBs.at h.nil).ok bb hbm
        refine r_call h (c_impl_links (hbo h) (by omega)) fun r45 w12 _ hb12 ⟨hrl, hrn⟩ => ?_
        have hM := hb12.keeps hM
        obtain ⟨Lr, hOr, h⟩ := SlO.own_of h hrl
        have hne : nextOf B k = links bb.pb := by unfold nextOf; rw [if_pos hkB, hbe]
        rw [hne] at hnext
        have hlk := links_ok (b := bb.pb) (hbo h).bytes.ok
        have hll := links_len bb.pb
        have hdb' : bb.pb.data.length ≤ 1024 := hdb
        have hnl := hnext.len
        refine r_loop (σ := Int) (fun i w' => ∃ m : Nat, i = m ∧ m ≤ (links bb.pb).length ∧ Seen w w' b5 b6 rm (Lr ++ []) (((links bb.pb).take m).foldl meetK s)) (fun i _ => (r45.n - i).toNat) 0 rfl
          ⟨0, rfl, by omega, ⟨so, Lo, o, h.ps2, by simpa using hO, by simpa using hsn, hM, by simpa using hm⟩⟩ ?_
        clear hM h hO hm
        rintro i w13 ⟨m, rfl, hml, hse⟩
        refine r_any fun _ => ?_
        refine r_if ((m : Int) < (r45.n : Int)) rfl (fun hlt2 => ?_) (fun hge2 => ?_)
        · obtain ⟨so2, Lo2, o2, h, hO2, hsn2, hM, hm2⟩ := hse
          obtain ⟨l, pl, hl', hlm, hpl, hlo, hlc⟩ := (ownS_ks hOr h.pl2 (List.sublist_append_left _ _) hlk).get (i := m) (by omega)
          refine r_ix pl hpl (by omega) (by omega) ?_
          refine r_ldN (u8s l).toArray (by simp only [Int.toNat_natCast]; exact hlc) ?_
          refine r_newM h hM fun b14 w14 h hM => ?_
          refine r_stAM hM hm2.no h 0 rfl rfl (by simp [hlo.1]) (by simp [Value.cells]) (by simpa using u8s_one) fun w15 h hM => ?_
          refine r_ldA h 0 rfl rfl (by simp [hlo.1]) ?_
          obtain ⟨t, ht⟩ := meets_grow ((links bb.pb).drop m) (((links bb.pb).take m).foldl meetK s)
          rw [← List.foldl_append, List.take_append_drop] at ht
          have hlen2 : (((links bb.pb).take m).foldl meetK s).length ≤ roots.length + (B.flatMap links).length := by
            have := congrArg List.length ht
            rw [List.length_append] at this
            omega
          have hsk2 : ∀ y ∈ ((links bb.pb).take m).foldl meetK s, keyOk y := fun y hy => by
            rcases (meets_mem _ _ _).1 hy with hy | hy
            · exact hsk y hy
            · exact hlk y (List.mem_of_mem_take hy)
          refine r_callVR (by kernel_rfl) (c_meet (k := l) ⟨so2, Lo2, o2, At.tail h, hO2, hsn2, hM, hm2⟩ hrm hsk2 hlo (by omega)) ?_
          rintro v w16 ⟨rfl, hse⟩
          refine ⟨(), rfl, ((m + 1 : Nat) : Int), by rw [w64 (by omega) (by omega)]; rfl, ⟨m + 1, rfl, by omega, ?_⟩, by omega⟩
          rw [take_succ_get hl', List.foldl_append]
          exact hse
        · have hml2 : m = (links bb.pb).length := by omega
          subst hml2
          rw [List.take_of_length_le (Nat.le_refl _)] at hse
          obtain ⟨so2, Lo2, o2, h, hO2, hsn2, hM, hm2⟩ := hse
          refine ⟨((j + 1 : Nat) : Int), by rw [w64 (by omega) (by omega)]; rfl, ⟨j + 1, _, rfl, hnext, so2, Lo2, o2, h.dr2, hO2, hsn2, hM, hm2⟩, mu_dec (by omega)⟩
      · rcases hr with ⟨hn, _⟩ | ⟨_, rfl⟩
        · exact absurd hn hkB
        refine r_stAM hM hm.no h 0 rfl rfl rfl rfl (by simp [oneC]) fun w11 h hM => ?_
        refine r_false rfl ?_
        have hne : nextOf B k = [] := if_neg hkB
        rw [hne] at hnext
        exact ⟨((j + 1 : Nat) : Int), by rw [w64 (by omega) (by omega)]; rfl, ⟨j + 1, s, rfl, hnext, so, Lo, o, At.tail h, hO, hsn, hM, hm⟩, mu_dec (by omega)⟩
    · refine r_ld h 1 rfl rfl so (by simp [Sh.emb]) rfl ?_
      exact r_ret h.nil so rfl ⟨s, fun k => hok.all (by omega) k, hok.nodup, hsk, by omega, hO.slo (ls := []) h.right, hsn⟩)

end Go.Proofs.YtkifkdkjljcclaaGreat

namespace Go.Sx
theorem r_mkB {P : Program} {R : Value → World → Prop} {w0 w : World} {ls : List Blk} {t e by_ : Nat} (hT : SlT P t e 1 by_) (hz0 : (P.info? e).bind (·.zero) = some (.bool false)) (hA : At w0 w ls) {n : Nat} (hb : by_ * n ≤ 281474976710656) (hn : n ≤ 281474976710656) {k : Sl → World → Prop}
    (h : ∀ s L w', At w0 w' (L ++ ls) → OwnS e 1 s (List.replicate n (.bool false)) L → s.n = n → (∃ p, s.a = some p) → k s w') :
    ((real P R).sem (Instr.makeSlice t (.int .i64 (n : Int)) (.int .i64 (n : Int))) .slice k : World → Prop) w := by
  obtain ⟨i, zv, hi, hzv, hsz, hby, hzs⟩ := hT.ex
  have hm : ((by_ : Int) * (n : Int)) = ((by_ * n : Nat) : Int) := by simp
  have hr := run_make w t e i zv hT.ut hi hzv .i64 .i64 (n : Int) (n : Int) (by omega) (Int.le_refl _) (by rw [hby, hm]; omega) (by omega)
  have hzv' : zv = .bool false := by rw [hi] at hz0; simpa [hzv] using hz0
  have hcur : (madeCells zv.cells (n * 1)).toList = List.replicate n (.bool false) := by
    subst hzv'
    apply List.ext_getElem?
    intro j
    simp only [madeCells, Nat.mul_one, Array.toList_map, List.getElem?_map, Array.toList_range]
    rcases Nat.lt_or_ge j n with hj | hj
    · simp [hj, Value.cells, Nat.mod_one]
    · rw [List.getElem?_eq_none (by simp; omega), List.getElem?_eq_none (by simp; omega)]; rfl
  refine ⟨⟨some ⟨w.heap.size, 0, none⟩, n, n⟩, w.alloc (.cells (madeCells zv.cells (n * 1)) e), ?_, h ⟨some ⟨w.heap.size, 0, none⟩, n, n⟩ [(w.heap.size, madeCells zv.cells (n * 1), e)] _ ((hA.trans (below_alloc w _)).add (heap_alloc_self w _) hA.size (hA.fresh (Nat.le_refl _))) ⟨by simp, .inr ⟨_, _, rfl, rfl, Nat.le_refl _, by unfold maxLen; show n ≤ _; omega, by rw [size_madeCells], by rw [hcur, List.length_replicate, List.take_of_length_le (by simp)]⟩⟩ rfl ⟨_, rfl⟩⟩
  rw [hr, hsz]
  rfl
end Go.Sx
namespace Go.Proofs.YtkifkdkjljcclaaGreat
open Go.Sx Go.RowKit

def flagsOf (B : List PB) (D : List (List Int)) : List Bool := (keysOf B).map fun k => decide (k ∈ D)
theorem flagsOf_len (B : List PB) (D : List (List Int)) : (flagsOf B D).length = B.length := by unfold flagsOf; rw [List.length_map, keysOf_len]
theorem flagsOf_get {B : List PB} {D : List (List Int)} {k : List Int} {i : Nat} (h : (keysOf B)[i]? = some k) : (flagsOf B D)[i]? = some (decide (k ∈ D)) := by unfold flagsOf; rw [List.getElem?_map, h]; rfl
theorem flagsOf_snoc {B : List PB} {D : List (List Int)} {k : List Int} {i : Nat} (ha : Asc (keysOf B)) (h : (keysOf B)[i]? = some k) : flagsOf B (D ++ [k]) = (flagsOf B D).set i true := by
  apply List.ext_getElem?
  intro j
  rw [List.getElem?_set, flagsOf_len]
  have hi : i < B.length := by have := (List.getElem?_eq_some_iff.1 h).1; rwa [keysOf_len] at this
  by_cases hij : i = j
  · subst hij
    rw [if_pos rfl, if_pos hi, flagsOf_get h]
    simp
  · rw [if_neg hij]
    unfold flagsOf
    rw [List.getElem?_map, List.getElem?_map]
    cases hj : (keysOf B)[j]? with
    | none => rfl
    | some x =>
      have hne : x ≠ k := fun e => hij (asc_inj ha h (e ▸ hj))
      simp [hne]
theorem bools_len (l : List Bool) : (bools l).length = l.length := by simp [bools]
theorem bools_set {l : List Bool} {i : Nat} (hi : i < l.length) (v : Bool) : (bools l).take i ++ [Value.bool v] ++ (bools l).drop (i + 1) = bools (l.set i v) := by
  unfold bools
  rw [List.set_eq_take_append_cons_drop, if_pos hi]
  simp [List.map_take, List.map_drop]
theorem T_sl_bool' : SlT Tryz.prog ty_sl_bool ty_bool 1 1 := slT_of (by kernel_rfl)

def missOf (B : List PB) (l : List (List Int)) : List (List Int) := (l.filter fun k => !decide (k ∈ keysOf B)).foldl meetK []
theorem missOf_snoc (B : List PB) (l : List (List Int)) (k : List Int) : missOf B (l ++ [k]) = if k ∈ keysOf B then missOf B l else meetK (missOf B l) k := by
  unfold missOf
  rw [List.filter_append, List.foldl_append]
  by_cases h : k ∈ keysOf B
  · rw [if_pos h]; simp [h]
  · rw [if_neg h]; simp [h]
theorem missOf_mem (B : List PB) (l : List (List Int)) (k : List Int) : k ∈ missOf B l ↔ k ∈ l ∧ k ∉ keysOf B := by
  unfold missOf
  rw [meets_mem]
  simp
theorem missOf_nodup (B : List PB) (l : List (List Int)) : (missOf B l).Nodup := meets_nodup _ List.nodup_nil
theorem missOf_len (B : List PB) (l : List (List Int)) : (missOf B l).length ≤ l.length := nodup_le (missOf_nodup B l) fun x hx => ((missOf_mem B l x).1 hx).1

theorem c_spec_reach {w : World} {p : Addr} {B : List PB} {bs : List BR} {x : Sl} {roots : List (List Int)} (hs : SpecR w p (keysOf B) bs) (hpb : bs.map BR.pb = B) (hv : validS B) (hx : KsR w x roots) (hmax : roots.length ≤ 1000000) :
    Ret Tryz.prog n_ptr_spec_l05Store_reach [.pointer (some p), .slice x.a x.n x.c] w [.slice, .slice] (fun r w' => ∃ (D out : List (List Int)) (Lf Lm : List Blk), At w w' (Lm ++ (Lf ++ [])) ∧ OwnS ty_bool 1 r.1 (bools (flagsOf B D)) Lf ∧ OwnS ty_impl_Key 32 r.2 ((missOf B out).flatMap u8s) Lm ∧ r.2.n = (missOf B out).length ∧ (missOf B out).length ≤ 2000000 ∧
      (∀ k ∈ keysOf B, (k ∈ D ↔ GetsTo B roots k)) ∧ (∀ k, k ∈ out ↔ GetsTo B roots k) ∧ (∀ k ∈ out, keyOk k)) := ptr_spec_l05Store_reach_calls _ _ (by
  unfold ptr_spec_l05Store_reach
  have hB128 : B.length ≤ 128 := hv.1
  have hkl : (keysOf B).length = B.length := keysOf_len B
  have hdl := hv.2.1
  have hasc : Asc (keysOf B) := hv.2.2
  have hbl : bs.length = B.length := by rw [← hpb]; simp
  have hxn := hx.n
  obtain ⟨sk, sb, e1, e2, hK, hBs⟩ := hs.ex
  have hskn := hK.n
  have hsbn := hBs.n
  have hbok : ∀ b ∈ B, bytesOk b.data := fun b hb => by
    rw [← hpb] at hb
    obtain ⟨y, hy, rfl⟩ := List.mem_map.1 hb
    exact (hBs.ok y hy).bytes.ok
  have hallok : ∀ k, GetsTo B roots k → keyOk k := fun k hk => by
    rcases List.mem_append.1 hk.sub with h | h
    · exact hx.ok k h
    · obtain ⟨b, hb, hkb⟩ := List.mem_flatMap.1 h
      exact links_ok (hbok b hb) k hkb
  refine r_ldN sk (e1 1) ?_
  refine r_mkB T_sl_bool' (by kernel_rfl) (At.refl w) (by omega) (by omega) fun y16 Lf w1 h hOf hyn ⟨pf, hpf⟩ => ?_
  refine r_bs0 T_sl_Key h fun y17 w2 hy17 hyn17 => ?_
  obtain ⟨Lm, hOm, h⟩ := hy17.split
  refine r_bs0 T_sl_Key h fun y18 w3 hy18 hyn18 => ?_
  refine r_append T_sl_Key hy18 (hx.at hy18.at_.nil).of.sl (fun v hv => by
    obtain ⟨z, _, hz⟩ := List.mem_flatMap.1 hv
    exact u8s_one v hz) (by omega) (by omega) fun y20 w4 hS hn20 => ?_
  obtain ⟨Ll, hOl, h⟩ := hS.split
  have hf0 : List.replicate sk.n (Value.bool false) = bools (flagsOf B []) := by
    unfold flagsOf bools
    rw [List.map_map, hskn, ← List.map_const']
    exact List.map_congr_left fun k _ => by simp
  rw [hf0] at hOf
  refine r_loop (σ := Sl × Sl × Int) (fun i w' => ∃ (j : Nat) (s D : List (List Int)) (Lf Lm Ll : List Blk), i.2.2 = j ∧ ListOk B roots j s D ∧ OwnS ty_bool 1 y16 (bools (flagsOf B D)) Lf ∧ OwnS ty_impl_Key 32 i.1 ((missOf B (s.take j)).flatMap u8s) Lm ∧ i.1.n = (missOf B (s.take j)).length ∧ OwnS ty_impl_Key 32 i.2.1 (s.flatMap u8s) Ll ∧ i.2.1.n = s.length ∧ At w w' (Ll ++ (Lm ++ (Lf ++ [])))) (fun i _ => ((roots.length : Int) + B.length * 1024 + 1 - i.2.2).toNat) (y17, y20, 0) rfl
    ⟨0, roots, [], Lf, Lm, Ll, rfl, ListOk.first B roots, hOf, by simpa [missOf] using hOm, by simpa [missOf] using hyn17, by simpa using hOl, by dsimp only; omega, h⟩ ?_
  clear hOf hOm hOl h hS hy17 hy18 hn20 hyn17 hyn18
  rintro ⟨sm, sl, i⟩ w5 ⟨j, s, D, Lf, Lm, Ll, hij, hok, hOf, hOm, hmn, hOl, hln, h⟩
  dsimp only at hij hOm hmn hOl hln
  subst hij
  refine r_any fun _ => ?_
  dsimp only
  have hsl := hok.len hdl
  have hjl := hok.le
  have hsk : ∀ k ∈ s, keyOk k := fun k hk => hallok k (hok.reach k hk)
  have hmk : ∀ k ∈ missOf B (s.take j), keyOk k := fun k hk => hsk k (List.mem_of_mem_take ((missOf_mem B _ k).1 hk).1)
  have hml := missOf_len B (s.take j)
  rw [List.length_take] at hml
  refine r_if ((j : Int) < (sl.n : Int)) rfl (fun hlt => ?_) (fun hge => ?_)
  · obtain ⟨k, q, hk, hkm, hq, hko, hkc⟩ := (ownS_ks hOl h (List.sublist_append_left _ _) hsk).get (i := j) (by omega)
    refine r_ix q hq (by omega) (by omega) ?_
    refine r_ldN (u8s k).toArray (by simp only [Int.toNat_natCast]; exact hkc) ?_
    refine r_call h (c_spec_find (hs.at h) hasc hko (by omega)) fun r32 w6 h _ hr => ?_
    subst hr
    have htk : s.take (j + 1) = s.take j ++ [k] := take_succ_get hk
    by_cases hkB : k ∈ keysOf B
    · rw [if_pos hkB]
      refine r_if ((posK (keysOf B) k : Int) < 0) rfl (fun hh => by omega) (fun _ => ?_)
      have hpos := (posK_mem hasc).1 hkB
      have hplt := (List.getElem?_eq_some_iff.1 hpos).1
      have hms : missOf B (s.take (j + 1)) = missOf B (s.take j) := by rw [htk, missOf_snoc, if_pos hkB]
      have hfl : (flagsOf B D).length = B.length := flagsOf_len B D
      have hfg : (bools (flagsOf B D))[posK (keysOf B) k]? = some (.bool (decide (k ∈ D))) := by unfold bools; rw [List.getElem?_map, flagsOf_get hpos]; rfl
      obtain ⟨pf', hpf', hcf⟩ := (hOf.sl h.pl2 (List.sublist_append_left _ _)).cell _ _ hfg
      rw [hpf] at hpf'
      cases hpf'
      have hyn' : y16.n = B.length := by omega
      refine r_ix pf hpf (by omega) (by omega) ?_
      refine r_ldN (sh := .bool) (decide (k ∈ D)) (by simp only [Int.toNat_natCast, Nat.mul_one]; exact hcf) ?_
      by_cases hkD : k ∈ D
      · refine r_false (by simp [hkD]) ?_
        exact ⟨(sm, sl, ((j + 1 : Nat) : Int)), by rw [w64 (by omega) (by omega)]; rfl, ⟨j + 1, s, D, Lf, Lm, Ll, rfl, hok.skip hk (fun _ => hkD), hOf, by rw [hms]; exact hOm, by rw [hms]; exact hmn, hOl, hln, h⟩, by dsimp only; omega⟩
      · refine r_true (by simp [hkD]) ?_
        refine r_ix pf hpf (by omega) (by omega) ?_
        refine r_stO h.pl2 hOf hpf (posK (keysOf B) k) (by simp) (by simp [Value.cells]) (by rw [bools_len, hfl]; omega) (by simp [Value.cells, oneC]) fun w7 Lf' h hOf' => ?_
        have h := h.ps2
        have hset : (bools (flagsOf B D)).take (posK (keysOf B) k) ++ (Value.bool true).cells.toList ++ (bools (flagsOf B D)).drop (posK (keysOf B) k + 1) = bools (flagsOf B (D ++ [k])) := by
          rw [flagsOf_snoc hasc hpos, ← bools_set (by omega)]
          rfl
        rw [hset] at hOf'
        refine r_ldN sb (ldOk_below h.below (e2 1)) ?_
        obtain ⟨bb, pb, hbb, hbm, hpb', hbat, _⟩ := (hBs.at h.nil).bat (i := posK (keysOf B) k) (by omega)
        have hBb := pb_get hpb hbb
        have hbe : blobAt B k = bb.pb := by unfold blobAt; simp [List.getD, hBb]
        have hdb : bb.pb.data.length ≤ 1024 := hdl bb.pb (List.mem_of_getElem? hBb)
        have hdb2 := hdb
        simp only [BR.pb] at hdb2
        have hnew := hok.find hk hkB hkD
        rw [hbe] at hnew
        have hnl := hnew.len hdl
        rw [List.length_append] at hnl
        refine r_ix pb hpb' (by omega) (by omega) ?_
        refine r_call h (c_l05Links (b := bb) (by simpa only [Int.toNat_natCast] using hbat) (by omega)) fun r64 w8 _ _ ⟨hrl, hrn⟩ => ?_
        obtain ⟨Lr, hOr, h⟩ := SlO.own_of h hrl
        refine r_append T_sl_Key (hOl.slo h.pl1) (hOr.sl h (List.sublist_append_left _ _)) (fun v hv => by
          obtain ⟨z, _, hz⟩ := List.mem_flatMap.1 hv
          exact u8s_one v hz) (by omega) (by omega) fun y65 w9 hS hn65 => ?_
        obtain ⟨Ll', hOl', h⟩ := hS.split
        have h := h.dr1
        refine ⟨(sm, y65, ((j + 1 : Nat) : Int)), by rw [w64 (by omega) (by omega)]; rfl, ⟨j + 1, s ++ links bb.pb, D ++ [k], Lf', Lm, Ll', rfl, hnew, hOf', ?_, ?_, ?_, by show y65.n = _; rw [List.length_append]; omega, h⟩, by dsimp only; omega⟩
        · rw [List.take_append_of_le_length (by omega), hms]; exact hOm
        · rw [List.take_append_of_le_length (by omega), hms]; exact hmn
        · rw [List.flatMap_append]; exact hOl'
    · rw [if_neg hkB]
      refine r_true (by decide) ?_
      have hms : missOf B (s.take (j + 1)) = meetK (missOf B (s.take j)) k := by rw [htk, missOf_snoc, if_neg hkB]
      obtain ⟨k2, q2, hk2, _, hq2, _, hkc2⟩ := (ownS_ks hOl h (List.sublist_append_left _ _) hsk).get (i := j) (by omega)
      rw [hk] at hk2
      cases hk2
      refine r_ix q2 hq2 (by omega) (by omega) ?_
      refine r_ldN (u8s k).toArray (by simp only [Int.toNat_natCast]; exact hkc2) ?_
      refine r_call h (c_l01Has (ownS_ks hOm h.pl1 (List.sublist_append_left _ _) hmk) hko (by omega)) fun r40 w7 h _ hr => ?_
      subst hr
      by_cases hin : k ∈ missOf B (s.take j)
      · refine r_false (by simp [hin]) ?_
        have hsame : meetK (missOf B (s.take j)) k = missOf B (s.take j) := if_pos hin
        rw [hsame] at hms
        exact ⟨(sm, sl, ((j + 1 : Nat) : Int)), by rw [w64 (by omega) (by omega)]; rfl, ⟨j + 1, s, D, Lf, Lm, Ll, rfl, hok.skip hk (fun hh => absurd hh hkB), hOf, by rw [hms]; exact hOm, by rw [hms]; exact hmn, hOl, hln, h⟩, by dsimp only; omega⟩
      · refine r_true (by simp [hin]) ?_
        have hsame : meetK (missOf B (s.take j)) k = missOf B (s.take j) ++ [k] := if_neg hin
        rw [hsame] at hms
        obtain ⟨k3, q3, hk3, _, hq3, _, hkc3⟩ := (ownS_ks hOl h (List.sublist_append_left _ _) hsk).get (i := j) (by omega)
        rw [hk] at hk3
        cases hk3
        refine r_ix q3 hq3 (by omega) (by omega) ?_
        refine r_ldN (u8s k).toArray (by simp only [Int.toNat_natCast]; exact hkc3) ?_
        refine r_push T_sl_Key (hOm.slo h.pl1) (v := .agg (u8s k).toArray) (by simp [Value.cells, hko.1]) (by omega) (by simpa [Value.cells] using u8s_one) (by omega) (by omega) fun y48 w8 hS hn => ?_
        obtain ⟨Lm', hOm', h⟩ := hS.split
        have h := h.ps1
        refine ⟨(y48, sl, ((j + 1 : Nat) : Int)), by rw [w64 (by omega) (by omega)]; rfl, ⟨j + 1, s, D, Lf, Lm', Ll, rfl, hok.skip hk (fun hh => absurd hh hkB), hOf, ?_, ?_, hOl, hln, h⟩, by dsimp only; omega⟩
        · rw [hms]; simpa [Value.cells, List.flatMap_append] using hOm'
        · rw [hms, List.length_append]; simp only [List.length_cons, List.length_nil]; omega
  · have hjl2 : s.length ≤ j := by omega
    rw [List.take_of_length_le hjl2] at hOm hmn
    have hml2 := missOf_len B s
    exact r_ret h.nil (y16, sm) rfl ⟨D, s, Lf, Lm, h.right, hOf, hOm, hmn, by omega, fun k hk => hok.flag hjl2 hk, hok.all hjl2, hsk⟩)

end Go.Proofs.YtkifkdkjljcclaaGreat

namespace Go.Proofs.YtkifkdkjljcclaaGreat
open Go.Sx Go.RowKit

end Go.Proofs.YtkifkdkjljcclaaGreat
