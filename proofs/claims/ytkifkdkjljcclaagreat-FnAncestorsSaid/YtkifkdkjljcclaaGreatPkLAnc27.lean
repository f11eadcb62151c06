/- What is reachable: plain. What is reachable: the program. What is reachable: the reference. The reference's sorting of keys. -/
import Derived.Test.YtkifkdkjljcclaaGreatPkLAnc20
import Derived.Test.YtkifkdkjljcclaaGreatPkLAnc26
namespace Go.Proofs.YtkifkdkjljcclaaGreat
open Go.Sx Go.RowKit

def meetK (s : List (List Int)) (k : List Int) : List (List Int) := if k ∈ s then s else s ++ [k]
theorem meetK_mem (s : List (List Int)) (k x : List Int) : x ∈ meetK s k ↔ x ∈ s ∨ x = k := by
  unfold meetK
  split
  · constructor
    · exact Or.inl
    · rintro (h | rfl) <;> assumption
  · simp
theorem meetK_nodup {s : List (List Int)} (h : s.Nodup) (k : List Int) : (meetK s k).Nodup := by
  unfold meetK
  split
  · exact h
  · rename_i hk
    exact List.nodup_append.2 ⟨h, by simp, fun a ha b hb => by rw [List.mem_singleton.1 hb]; exact fun e => hk (e ▸ ha)⟩
theorem meetK_grow (s : List (List Int)) (k : List Int) : ∃ t, meetK s k = s ++ t := by
  unfold meetK
  split
  · exact ⟨[], by simp⟩
  · exact ⟨[k], rfl⟩
theorem meets_mem (l : List (List Int)) (x : List Int) : ∀ s, x ∈ l.foldl meetK s ↔ x ∈ s ∨ x ∈ l := by
  induction l with
  | nil => simp
  | cons k r ih => intro s; rw [List.foldl_cons, ih, meetK_mem, List.mem_cons]; exact or_assoc
theorem meets_nodup (l : List (List Int)) : ∀ {s : List (List Int)}, s.Nodup → (l.foldl meetK s).Nodup := by
  induction l with
  | nil => exact fun h => h
  | cons k r ih => exact fun h => ih (meetK_nodup h k)
theorem meets_grow (l : List (List Int)) : ∀ s, ∃ t, l.foldl meetK s = s ++ t := by
  induction l with
  | nil => exact fun s => ⟨[], by simp⟩
  | cons k r ih =>
    intro s
    obtain ⟨t, h⟩ := meetK_grow s k
    obtain ⟨u, h'⟩ := ih (meetK s k)
    exact ⟨t ++ u, by rw [List.foldl_cons, h', h, List.append_assoc]⟩

def nextOf (B : List PB) (k : List Int) : List (List Int) := if k ∈ keysOf B then links (blobAt B k) else []
theorem nextOf_sub (B : List PB) (k : List Int) : ∀ x ∈ nextOf B k, x ∈ B.flatMap links := by
  intro x hx
  unfold nextOf at hx
  split at hx
  · unfold blobAt at hx
    rcases Nat.lt_or_ge (posK (keysOf B) k) B.length with h | h
    · refine List.mem_flatMap.2 ⟨_, ?_, hx⟩
      simp only [List.getD, List.getElem?_eq_getElem h, Option.getD_some]
      exact List.getElem_mem _
    · simp only [List.getD, List.getElem?_eq_none h, Option.getD_none] at hx
      cases hx
  · cases hx
inductive GetsTo (B : List PB) (roots : List (List Int)) : List Int → Prop
  | root {k : List Int} : k ∈ roots → GetsTo B roots k
  | link {k l : List Int} : GetsTo B roots k → l ∈ nextOf B k → GetsTo B roots l
theorem GetsTo.sub {B : List PB} {roots : List (List Int)} {k : List Int} (h : GetsTo B roots k) : k ∈ roots ++ B.flatMap links := by
  cases h with
  | root h => exact List.mem_append_left _ h
  | link _ h => exact List.mem_append_right _ (nextOf_sub B _ _ h)

structure WalkOk (B : List PB) (roots : List (List Int)) (i : Nat) (s : List (List Int)) : Prop where
  nodup : s.Nodup
  reach : ∀ k ∈ s, GetsTo B roots k
  roots : ∀ k ∈ roots, k ∈ s
  done : ∀ k ∈ s.take i, ∀ l ∈ nextOf B k, l ∈ s
  le : i ≤ s.length
theorem WalkOk.first (B : List PB) (roots : List (List Int)) : WalkOk B roots 0 (roots.foldl meetK []) :=
  ⟨meets_nodup _ List.nodup_nil, fun k hk => .root (by simpa using (meets_mem roots k []).1 hk), fun k hk => (meets_mem roots k []).2 (.inr hk), by simp, Nat.zero_le _⟩
theorem WalkOk.next {B : List PB} {roots s : List (List Int)} {i : Nat} (h : WalkOk B roots i s) {k : List Int} (hk : s[i]? = some k) : WalkOk B roots (i + 1) ((nextOf B k).foldl meetK s) := by
  obtain ⟨t, ht⟩ := meets_grow (nextOf B k) s
  have hi := (List.getElem?_eq_some_iff.1 hk).1
  refine ⟨meets_nodup _ h.nodup, fun x hx => ?_, fun x hx => (meets_mem _ _ _).2 (.inl (h.roots x hx)), fun x hx l hl => ?_, by rw [ht, List.length_append]; omega⟩
  · rcases (meets_mem _ _ _).1 hx with hx | hx
    · exact h.reach x hx
    · exact .link (h.reach k (List.mem_of_getElem? hk)) hx
  · rw [ht, List.take_append_of_le_length (by omega), take_succ_get hk] at hx
    refine (meets_mem _ _ _).2 ?_
    rcases List.mem_append.1 hx with hx | hx
    · exact .inl (h.done x hx l hl)
    · rw [List.mem_singleton.1 hx] at hl
      exact .inr hl
theorem WalkOk.len {B : List PB} {roots s : List (List Int)} {i : Nat} (h : WalkOk B roots i s) : s.length ≤ roots.length + (B.flatMap links).length := by
  have := nodup_le h.nodup fun x hx => (h.reach x hx).sub
  rwa [List.length_append] at this
theorem WalkOk.all {B : List PB} {roots s : List (List Int)} {i : Nat} (h : WalkOk B roots i s) (hi : s.length ≤ i) (k : List Int) : k ∈ s ↔ GetsTo B roots k := by
  refine ⟨h.reach k, fun hk => ?_⟩
  have hd := h.done
  rw [List.take_of_length_le hi] at hd
  induction hk with
  | root hk => exact h.roots _ hk
  | link _ hl ih => exact hd _ ih _ hl

structure ListOk (B : List PB) (roots : List (List Int)) (i : Nat) (s D : List (List Int)) : Prop where
  is : s = roots ++ D.flatMap (nextOf B)
  nodup : D.Nodup
  inB : ∀ k ∈ D, k ∈ keysOf B
  sub : ∀ k ∈ D, k ∈ s.take i
  found : ∀ k ∈ s.take i, k ∈ keysOf B → k ∈ D
  reach : ∀ k ∈ s, GetsTo B roots k
  le : i ≤ s.length
theorem ListOk.first (B : List PB) (roots : List (List Int)) : ListOk B roots 0 roots [] := ⟨by simp, List.nodup_nil, by simp, by simp, by simp, fun k hk => .root hk, Nat.zero_le _⟩
theorem ListOk.skip {B : List PB} {roots s D : List (List Int)} {i : Nat} (h : ListOk B roots i s D) {k : List Int} (hk : s[i]? = some k) (hD : k ∈ keysOf B → k ∈ D) : ListOk B roots (i + 1) s D := by
  have hi := (List.getElem?_eq_some_iff.1 hk).1
  refine ⟨h.is, h.nodup, h.inB, fun x hx => ?_, fun x hx hB => ?_, h.reach, by omega⟩
  · rw [take_succ_get hk]
    exact List.mem_append_left _ (h.sub x hx)
  · rw [take_succ_get hk] at hx
    rcases List.mem_append.1 hx with hx | hx
    · exact h.found x hx hB
    · rw [List.mem_singleton.1 hx] at hB ⊢
      exact hD hB
theorem flat_le {α β : Type} {f : α → List β} {n : Nat} : ∀ {l : List α}, (∀ x ∈ l, (f x).length ≤ n) → (l.flatMap f).length ≤ l.length * n
  | [], _ => by simp
  | x :: l, h => by
    have h1 := h x (by simp)
    have h2 := flat_le (l := l) fun y hy => h y (by simp [hy])
    rw [List.flatMap_cons, List.length_append, List.length_cons, Nat.add_mul]
    omega
theorem blobAt_len {B : List PB} (hd : ∀ b ∈ B, b.data.length ≤ 1024) (k : List Int) : (blobAt B k).data.length ≤ 1024 := by
  unfold blobAt
  rcases Nat.lt_or_ge (posK (keysOf B) k) B.length with h | h
  · simp only [List.getD, List.getElem?_eq_getElem h, Option.getD_some]
    exact hd _ (List.getElem_mem _)
  · simp [List.getD, List.getElem?_eq_none h]
theorem nextOf_len {B : List PB} (hd : ∀ b ∈ B, b.data.length ≤ 1024) (k : List Int) : (nextOf B k).length ≤ 1024 := by
  unfold nextOf
  split
  · exact Nat.le_trans (links_len _) (blobAt_len hd k)
  · simp
theorem ListOk.len {B : List PB} {roots s D : List (List Int)} {i : Nat} (h : ListOk B roots i s D) (hd : ∀ b ∈ B, b.data.length ≤ 1024) : s.length ≤ roots.length + B.length * 1024 := by
  have h1 := nodup_le h.nodup h.inB
  rw [keysOf_len] at h1
  have h2 := flat_le (l := D) (f := nextOf B) (n := 1024) fun x _ => nextOf_len hd x
  have := Nat.mul_le_mul_right 1024 h1
  have e := congrArg List.length h.is
  rw [List.length_append] at e
  omega
theorem ListOk.all {B : List PB} {roots s D : List (List Int)} {i : Nat} (h : ListOk B roots i s D) (hi : s.length ≤ i) (k : List Int) : k ∈ s ↔ GetsTo B roots k := by
  refine ⟨h.reach k, fun hk => ?_⟩
  have hd := h.found
  rw [List.take_of_length_le hi] at hd
  induction hk with
  | root hk => rw [h.is]; exact List.mem_append_left _ hk
  | @link k l _ hl ih =>
    have hB : k ∈ keysOf B := by
      unfold nextOf at hl
      split at hl
      · assumption
      · cases hl
    rw [h.is]
    exact List.mem_append_right _ (List.mem_flatMap.2 ⟨k, hd k ih hB, hl⟩)
def putK (s : List (List Int)) (k : List Int) : List (List Int) := if k ∈ s then s else insAt (posK s k) k s
def sortK (l : List (List Int)) : List (List Int) := l.foldl putK []
theorem sortK_snoc (l : List (List Int)) (k : List Int) : sortK (l ++ [k]) = putK (sortK l) k := by unfold sortK; rw [List.foldl_append]; rfl
theorem mem_insAt' {i : Nat} {x y : List Int} {l : List (List Int)} : y ∈ insAt i x l ↔ y = x ∨ y ∈ l := by
  refine ⟨mem_insAt, fun h => ?_⟩
  unfold insAt
  simp only [List.mem_append, List.mem_singleton]
  rcases h with rfl | h
  · exact .inl (.inr rfl)
  · rw [← List.take_append_drop i l, List.mem_append] at h
    rcases h with h | h
    · exact .inl (.inl h)
    · exact .inr h
theorem putK_asc {s : List (List Int)} (h : Asc s) (k : List Int) : Asc (putK s k) := by
  unfold putK
  split
  · exact h
  · exact asc_insAt h (by assumption)
theorem putK_mem (s : List (List Int)) (k x : List Int) : x ∈ putK s k ↔ x = k ∨ x ∈ s := by
  unfold putK
  split
  · constructor
    · exact Or.inr
    · rintro (rfl | h) <;> assumption
  · exact mem_insAt'
theorem putK_len (s : List (List Int)) (k : List Int) : (putK s k).length ≤ s.length + 1 := by
  unfold putK
  split
  · omega
  · rw [insAt_len (posK_le _ _)]; omega
theorem puts_asc (l : List (List Int)) : ∀ {s : List (List Int)}, Asc s → Asc (l.foldl putK s) := by
  induction l with
  | nil => exact fun h => h
  | cons k r ih => exact fun h => ih (putK_asc h k)
theorem puts_mem (l : List (List Int)) (x : List Int) : ∀ s, x ∈ l.foldl putK s ↔ x ∈ s ∨ x ∈ l := by
  induction l with
  | nil => simp
  | cons k r ih =>
    intro s
    rw [List.foldl_cons, ih, putK_mem, List.mem_cons]
    constructor
    · rintro ((h | h) | h)
      · exact .inr (.inl h)
      · exact .inl h
      · exact .inr (.inr h)
    · rintro (h | h | h)
      · exact .inl (.inr h)
      · exact .inl (.inl h)
      · exact .inr h
theorem puts_len (l : List (List Int)) : ∀ s, (l.foldl putK s).length ≤ s.length + l.length := by
  induction l with
  | nil => simp
  | cons k r ih =>
    intro s
    have := ih (putK s k)
    have := putK_len s k
    rw [List.foldl_cons, List.length_cons]
    omega
theorem sortK_asc (l : List (List Int)) : Asc (sortK l) := puts_asc l (by unfold Asc; exact List.Pairwise.nil)
theorem sortK_mem (l : List (List Int)) (x : List Int) : x ∈ sortK l ↔ x ∈ l := by unfold sortK; rw [puts_mem]; simp
theorem sortK_len (l : List (List Int)) : (sortK l).length ≤ l.length := by have := puts_len l []; unfold sortK; simpa using this
end Go.Proofs.YtkifkdkjljcclaaGreat

namespace Go.Proofs.YtkifkdkjljcclaaGreat
open Go.Sx Go.RowKit

def yesOf (s : List (List Int)) : List (List Int × Value) := s.map fun k => (k, .bool true)
abbrev seenB (b5 b6 rm : Nat) (so : Sl) : List Blk := [(b6, #[.map (some rm)], ty_map_impl_Key_bool), (b5, #[.slice so.a so.n so.c], ty_sl_impl_Key)]
def Seen (w0 w : World) (b5 b6 rm : Nat) (ls : List Blk) (s : List (List Int)) : Prop :=
  ∃ (so : Sl) (Lo : List Blk) (o : Obj), At w0 w (seenB b5 b6 rm so ++ (Lo ++ ls)) ∧ OwnS ty_impl_Key 32 so (s.flatMap u8s) Lo ∧ so.n = s.length ∧ w.heap[rm]? = some o ∧ MapIs o (yesOf s)

theorem Seen.at_ {w0 w : World} {b5 b6 rm : Nat} {ls : List Blk} {s : List (List Int)} (h : Seen w0 w b5 b6 rm ls s) : ∃ L, At w0 w (L ++ ls) := by
  obtain ⟨so, Lo, o, h, _⟩ := h
  exact ⟨_, (List.append_assoc _ _ _).symm ▸ h⟩

end Go.Proofs.YtkifkdkjljcclaaGreat

namespace Go.Sx
end Go.Sx
namespace Go.Proofs.YtkifkdkjljcclaaGreat
open Go.Sx Go.RowKit

end Go.Proofs.YtkifkdkjljcclaaGreat

namespace Go.Proofs.YtkifkdkjljcclaaGreat
open Go.Sx Go.RowKit

theorem r_allQ {P : Program} {R : Value → World → Prop} {w : World} {s t u v : World → Prop} (h1 : s w) (h2 : t w) (h3 : u w) (h4 : v w) : ((real P R).all [s, t, u, v] : World → Prop) w := ⟨h1, h2, h3, h4⟩
theorem xor_zero : ∀ b : Fin 256, bitsI .xor .u8 (b.val : Int) 0 = (b.val : Int) := by decide +kernel
theorem xor_zero' {x : Int} (h : 0 ≤ x ∧ x < 256) : bitsI .xor .u8 x 0 = x := by
  have := xor_zero ⟨x.toNat, by omega⟩
  have e : ((x.toNat : Nat) : Int) = x := by omega
  dsimp only at this
  rwa [e] at this

theorem c_l01Xor {a z : List Int} (ha : keyOk a) (hz : z = zero32) (w : World) : Ret Tryz.prog n_spec_l01Xor [.agg (u8s a).toArray, .agg (u8s z).toArray] w [.agg] (fun r _ => r = (u8s a).toArray) := spec_l01Xor_calls _ _ (by
  subst hz
  unfold spec_l01Xor
  refine r_new (At.refl w) fun b2 w1 h => ?_
  refine r_new h fun b3 w2 h => ?_
  refine r_new h fun b4 w3 h => ?_
  have h : At w w3 [(b4, Array.replicate 32 (.int .u8 0), ty_impl_Key), (b3, (u8s zero32).toArray, ty_impl_Key), (b2, (u8s a).toArray, ty_impl_Key)] := h
  refine r_loop (σ := Int) (fun i w' => ∃ j : Nat, i = j ∧ j ≤ 32 ∧ At w w' [(b4, Array.replicate 32 (.int .u8 0), ty_impl_Key), (b3, (u8s zero32).toArray, ty_impl_Key), (b2, (u8s a).toArray, ty_impl_Key)]) (fun i _ => (32 - i).toNat) 0 rfl ⟨0, rfl, by omega, h⟩ ?_
  clear h
  rintro i w4 ⟨j, rfl, hj, h⟩
  refine r_any fun _ => ?_
  refine r_if ((j : Int) < 32) rfl (fun hlt => ?_) (fun hge => ?_)
  · refine r_draw h fun w5 h => ?_
    have hal := ha.1
    have hga : 0 ≤ a.getD j 0 ∧ a.getD j 0 < 256 := getD_byte ha.2 (by omega)
    have hcell : (u8s a).toArray[j]? = some (.int .u8 (a.getD j 0)) := by rw [List.getElem?_toArray]; exact u8s_get (by omega)
    have hz : (u8s zero32).toArray[j]? = some (.int .u8 0) := by
      rw [List.getElem?_toArray, u8s_get (by rw [zero32_ok.1]; omega)]
      unfold zero32
      simp only [List.getD]
      rw [List.getElem?_replicate, if_pos (by omega)]
      rfl
    refine r_ix ⟨b2, 0, none⟩ rfl (by omega) (by omega) ?_
    refine r_ldN (sh := .int .u8) (a.getD j 0) (ldOk_own h 2 rfl (j * 1) (by rw [Nat.mul_one]; exact hcell) (by simp [Sh.emb])) ?_
    refine r_ix ⟨b3, 0, none⟩ rfl (by omega) (by omega) ?_
    refine r_ldN (sh := .int .u8) 0 (ldOk_own h 1 rfl (j * 1) (by rw [Nat.mul_one]; exact hz) (by simp [Sh.emb])) ?_
    refine r_ix ⟨b2, 0, none⟩ rfl (by omega) (by omega) ?_
    rw [xor_zero' hga]
    refine r_st h 2 (o := j) rfl (by rw [add_lit]; simp) (by simp; omega) rfl fun w6 h => ?_
    have hset : (u8s a).toArray.setIfInBounds j (.int .u8 (a.getD j 0)) = (u8s a).toArray := by
      apply Array.ext_getElem?
      intro i
      rw [Array.getElem?_setIfInBounds]
      split
      · rename_i e
        subst e
        rw [if_pos (by simp; omega), hcell]
      · rfl
    rw [hset] at h
    exact ⟨((j + 1 : Nat) : Int), by rw [w64 (by omega) (by omega)]; rfl, ⟨j + 1, rfl, by omega, h⟩, by omega⟩
  · refine r_ldA h 2 rfl rfl (by simp [ha.1]) ?_
    refine r_stA h 0 rfl rfl (by simp [ha.1]) (by simp) (by simpa using u8s_one) fun w5 h => ?_
    refine r_ldA h 0 rfl rfl (by simp [ha.1]) ?_
    exact r_ret h.nil (u8s a).toArray rfl rfl)

theorem insAt_get {S : List (List Int)} {m : Nat} (hm : m ≤ S.length) (k : List Int) (i : Nat) : (insAt m k S)[i]? = if i < m then S[i]? else if i = m then some k else S[i - 1]? := by
  unfold insAt
  have hl : (S.take m).length = m := by rw [List.length_take]; omega
  rcases Nat.lt_trichotomy i m with h | h | h
  · rw [if_pos h, List.append_assoc, List.getElem?_append_left (by omega), List.getElem?_take, if_pos h]
  · rw [if_neg (by omega), if_pos h, List.append_assoc, List.getElem?_append_right (by omega), hl, h]
    simp
  · rw [if_neg (by omega), if_neg (by omega), List.getElem?_append_right (by rw [List.length_append, hl]; simp; omega), List.length_append, hl, List.getElem?_drop]
    congr 1
    simp only [List.length_cons, List.length_nil]
    omega
theorem insAt_down {S : List (List Int)} {m : Nat} (h0 : 0 < m) (hm : m ≤ S.length) {k x : List Int} (hx : S[m - 1]? = some x) : ((insAt m k S).set m x).set (m - 1) k = insAt (m - 1) k S := by
  apply List.ext_getElem?
  intro i
  have hl := insAt_len (x := k) hm
  rw [List.getElem?_set, List.length_set, List.getElem?_set, hl, insAt_get hm, insAt_get (by omega)]
  by_cases h1 : m - 1 = i
  · subst h1
    rw [if_pos rfl, if_pos (by omega), if_neg (by omega), if_pos rfl]
  · rw [if_neg h1]
    by_cases h2 : m = i
    · subst h2
      rw [if_pos rfl, if_pos (by omega), if_neg (by omega), if_neg (by omega), hx]
    · rw [if_neg h2]
      by_cases h3 : i < m
      · rw [if_pos h3, if_pos (by omega)]
      · rw [if_neg h3, if_neg (by omega), if_neg (by omega), if_neg (by omega)]
theorem posK_is {S : List (List Int)} (ha : Asc S) {k : List Int} {m : Nat} (hm : m ≤ S.length) (h1 : ∀ i x, m ≤ i → S[i]? = some x → ltL k x) (h2 : ∀ x, 0 < m → S[m - 1]? = some x → ltL x k) : posK S k = m := by
  have hle := posK_le S k
  rcases Nat.lt_trichotomy (posK S k) m with h | h | h
  · exfalso
    have hx : S[m - 1]? = some S[m - 1] := List.getElem?_eq_getElem (by omega)
    have := (posK_lt ha hx).2 (h2 _ (by omega) hx)
    omega
  · exact h
  · exfalso
    have hx : S[m]? = some S[m] := List.getElem?_eq_getElem (by omega)
    have := (posK_lt ha hx).1 h
    exact ltL_asymm this (h1 m _ (Nat.le_refl _) hx)

set_option maxHeartbeats 2000000 in
theorem c_l01Sort {w : World} {s : Sl} {ks : List (List Int)} (hs : KsR w s ks) (hmax : ks.length ≤ 1073741824) {z : List Int} (hz : z = zero32) : Ret Tryz.prog n_spec_l01Sort [.slice s.a s.n s.c, .agg (u8s z).toArray] w [.slice] (fun r w' => SlO w w' [] ty_impl_Key 32 r ((sortK ks).flatMap u8s) ∧ r.n = (sortK ks).length) := spec_l01Sort_calls _ _ (by
  unfold spec_l01Sort
  have hn := hs.n
  have hz32 : keyOk z := hz ▸ zero32_ok
  refine r_new (At.refl w) fun b3 w1 h => ?_
  refine r_bs0 T_sl_Key h fun y9 w2 hy hyn => ?_
  obtain ⟨L, hO, h⟩ := hy.split
  refine r_loop (σ := Sl × Int) (fun i w' => ∃ (j : Nat) (L : List Blk), i.2 = j ∧ j ≤ ks.length ∧ i.1.n = (sortK (ks.take j)).length ∧ OwnS ty_impl_Key 32 i.1 ((sortK (ks.take j)).flatMap u8s) L ∧ At w w' (L ++ [(b3, (u8s z).toArray, ty_impl_Key)])) (fun i _ => (s.n - i.2).toNat) (y9, 0) rfl
    ⟨0, L, rfl, by omega, by simpa [sortK] using hyn, by simpa [sortK] using hO, h⟩ ?_
  clear hO h hy hyn
  rintro ⟨so, i⟩ w3 ⟨j, L, hij, hj, hsn, hO, h⟩
  dsimp only at hij hsn hO
  subst hij
  refine r_any fun _ => ?_
  dsimp only
  have hSl : (sortK (ks.take j)).length ≤ j := by
    have := sortK_len (ks.take j)
    rw [List.length_take] at this
    omega
  have hSk : ∀ k ∈ sortK (ks.take j), keyOk k := fun k hk => hs.ok k (List.mem_of_mem_take ((sortK_mem _ k).1 hk))
  have hSa := sortK_asc (ks.take j)
  refine r_if ((j : Int) < (s.n : Int)) rfl (fun hlt => ?_) (fun hge => ?_)
  · obtain ⟨k, q, hk, hkm, hq, hko, hkc⟩ := (hs.at h.nil).get (i := j) (by omega)
    have hstep : sortK (ks.take (j + 1)) = putK (sortK (ks.take j)) k := by rw [take_succ_get hk, sortK_snoc]
    refine r_ix q hq (by omega) (by omega) ?_
    refine r_ldN (u8s k).toArray (by simp only [Int.toNat_natCast]; exact hkc) ?_
    refine r_call h (c_l01Has (ownS_ks hO h (List.sublist_append_left _ _) hSk) hko (by omega)) fun r21 w4 h _ hr => ?_
    subst hr
    generalize sortK (ks.take j) = S at hsn hO hSl hSk hSa hstep
    by_cases hin : k ∈ S
    · refine r_true (decide_eq_true hin) ?_
      have hp : putK S k = S := if_pos hin
      rw [hp] at hstep
      exact ⟨(so, ((j + 1 : Nat) : Int)), by rw [w64 (by omega) (by omega)]; rfl, ⟨j + 1, L, rfl, by omega, by rw [hstep]; exact hsn, by rw [hstep]; exact hO, h⟩, by dsimp only; omega⟩
    · refine r_false (decide_eq_false hin) ?_
      have hp : putK S k = insAt (posK S k) k S := if_neg hin
      obtain ⟨k2, q2, hk2, _, hq2, _, hkc2⟩ := (hs.at h.nil).get (i := j) (by omega)
      rw [hk] at hk2
      cases hk2
      refine r_ix q2 hq2 (by omega) (by omega) ?_
      refine r_ldN (u8s k).toArray (by simp only [Int.toNat_natCast]; exact hkc2) ?_
      refine r_push T_sl_Key (hO.slo h) (v := .agg (u8s k).toArray) (by simp [Value.cells, hko.1]) (by omega) (by simpa [Value.cells] using u8s_one) (by omega) (by omega) fun y28 w5 hS hn28 => ?_
      obtain ⟨L5, hO5, h⟩ := hS.split
      obtain ⟨py, hpy⟩ := hO5.addr (by omega)
      have hO5' : OwnS ty_impl_Key 32 y28 ((insAt S.length k S).flatMap u8s) L5 := by simpa [Value.cells, insAt, List.flatMap_append] using hO5
      refine r_loop (σ := Int) (fun i w' => ∃ (m : Nat) (L : List Blk), i = m ∧ m ≤ S.length ∧ (∀ i x, m ≤ i → S[i]? = some x → ltL k x) ∧ OwnS ty_impl_Key 32 y28 ((insAt m k S).flatMap u8s) L ∧ At w w' (L ++ [(b3, (u8s z).toArray, ty_impl_Key)])) (fun i _ => i.toNat) (S.length : Int) (by simp only [embL, Sh.emb]; rw [w64 (by omega) (by omega)]; congr 2; omega)
        ⟨S.length, L5, rfl, Nat.le_refl _, (fun i x hi hx => by rw [List.getElem?_eq_none hi] at hx; cases hx), hO5', h⟩ ?_
      clear hO5 hO5' h hS hO
      rintro i w6 ⟨m, L6, rfl, hm, hgt, hO6, h⟩
      refine r_any fun _ => ?_
      have hinl := insAt_len (x := k) hm
      have hik : ∀ x ∈ insAt m k S, keyOk x := fun x hx => by
        rcases mem_insAt hx with rfl | hx
        · exact hko
        · exact hSk x hx
      have hzz : ∀ x ∈ insAt m k S, (u8s x).length = 32 := fun x hx => by rw [u8s_len]; exact (hik x hx).1
      have hgm : (insAt m k S)[m]? = some k := by rw [insAt_get hm, if_neg (by omega), if_pos rfl]
      refine r_join (σ := Unit) (fun _ w' => ∃ x, 0 < m ∧ S[m - 1]? = some x ∧ ltL k x ∧ At w w' (L6 ++ [(b3, (u8s z).toArray, ty_impl_Key)])) (fun _ w7 hJ => ?_) ?_
      · obtain ⟨x, h0, hx, hlx, h⟩ := hJ
        refine r_any fun _ => ?_
        have em : IntKind.wrap .i64 ((m : Int) - 1) = ((m - 1 : Nat) : Int) := by rw [w64 (by omega) (by omega)]; omega
        have hxo := hSk x (List.mem_of_getElem? hx)
        have hgx : (insAt m k S)[m - 1]? = some x := by rw [insAt_get hm, if_pos (by omega), hx]
        have rd := ownS_ks hO6 h (List.sublist_append_left _ _) hik
        obtain ⟨a, qa, ha, _, hqa, _, hac⟩ := rd.get (i := m) (by omega)
        obtain ⟨c, qc, hc, _, hqc, _, hcc⟩ := rd.get (i := m - 1) (by omega)
        rw [hgm] at ha
        cases ha
        rw [hgx] at hc
        cases hc
        rw [hpy] at hqa hqc
        cases hqa
        cases hqc
        rw [em]
        refine r_ix py hpy (by omega) (by omega) ?_
        refine r_ldN (u8s k).toArray (by simp only [Int.toNat_natCast]; exact hac) ?_
        refine r_new h fun b8 w8 h => ?_
        refine r_stA h 0 rfl rfl (by simp [hko.1]) (by simp [Value.cells]) (by simpa using u8s_one) fun w9 h => ?_
        have h : At w w9 ([(b8, (u8s k).toArray, ty_impl_Key)] ++ (L6 ++ [(b3, (u8s z).toArray, ty_impl_Key)])) := h
        obtain ⟨c, qc, hc, _, hqc, _, hcc⟩ := (ownS_ks hO6 h.pl1 (List.sublist_append_left _ _) hik).get (i := m - 1) (by omega)
        rw [hgx] at hc
        cases hc
        rw [hpy] at hqc
        cases hqc
        refine r_ix py hpy (by omega) (by omega) ?_
        refine r_ldN (u8s x).toArray (by simp only [Int.toNat_natCast]; exact hcc) ?_
        have hfl : ((insAt m k S).flatMap u8s).length = (S.length + 1) * 32 := by rw [flatMap_length hzz, hinl]
        refine r_ix py hpy (by omega) (by omega) ?_
        refine r_stO h.pl1 hO6 hpy (m * 32) (by simp) (by simp [Value.cells, hxo.1]) (by omega) (by simpa [Value.cells] using u8s_one) fun w10 L10 h hO10 => ?_
        have e10 : ((insAt m k S).flatMap u8s).take (m * 32) ++ (Value.agg (u8s x).toArray).cells.toList ++ ((insAt m k S).flatMap u8s).drop (m * 32 + 32) = ((insAt m k S).set m x).flatMap u8s := by
          rw [← flatMap_set hzz (by omega)]
          simp [Value.cells]
        rw [e10] at hO10
        have hzz10 : ∀ y ∈ (insAt m k S).set m x, (u8s y).length = 32 := fun y hy => by
          rcases List.mem_or_eq_of_mem_set hy with hy | rfl
          · exact hzz y hy
          · rw [u8s_len]; exact hxo.1
        have hfl10 : (((insAt m k S).set m x).flatMap u8s).length = (S.length + 1) * 32 := by rw [flatMap_length hzz10, List.length_set, hinl]
        have h := h.ps1
        refine r_ldA h 0 rfl rfl (by simp [hko.1]) ?_
        refine r_ix py hpy (by omega) (by omega) ?_
        refine r_stO h.pl1 hO10 hpy ((m - 1) * 32) (by simp) (by simp [Value.cells, hko.1]) (by omega) (by simpa [Value.cells] using u8s_one) fun w11 L11 h hO11 => ?_
        have e11 : (((insAt m k S).set m x).flatMap u8s).take ((m - 1) * 32) ++ (Value.agg (u8s k).toArray).cells.toList ++ (((insAt m k S).set m x).flatMap u8s).drop ((m - 1) * 32 + 32) = (((insAt m k S).set m x).set (m - 1) k).flatMap u8s := by
          rw [← flatMap_set hzz10 (by rw [List.length_set]; omega)]
          simp [Value.cells]
        rw [e11, insAt_down h0 hm hx] at hO11
        refine ⟨((m - 1 : Nat) : Int), rfl, ⟨m - 1, L11, rfl, by omega, fun i y hi hy => ?_, hO11, h.dr1⟩, by omega⟩
        rcases Nat.lt_or_ge i m with hlt' | hge'
        · rw [show i = m - 1 by omega, hx] at hy
          cases hy
          exact hlx
        · exact hgt i y hge' hy
      · refine r_draw h fun w7 h => ?_
        have done_ : posK S k = m → (sortK (ks.take (j + 1))).length = y28.n ∧ OwnS ty_impl_Key 32 y28 ((sortK (ks.take (j + 1))).flatMap u8s) L6 := fun e => by
          rw [hstep, hp, e]
          exact ⟨by rw [hinl]; omega, hO6⟩
        refine r_if ((m : Int) > 0) rfl (fun h0 => ?_) (fun h0 => ?_)
        · have em : IntKind.wrap .i64 ((m : Int) - 1) = ((m - 1 : Nat) : Int) := by rw [w64 (by omega) (by omega)]; omega
          have hx : S[m - 1]? = some S[m - 1] := List.getElem?_eq_getElem (by omega)
          generalize S[m - 1] = x at hx
          have hxo := hSk x (List.mem_of_getElem? hx)
          have hgx : (insAt m k S)[m - 1]? = some x := by rw [insAt_get hm, if_pos (by omega), hx]
          have rd := ownS_ks hO6 h (List.sublist_append_left _ _) hik
          obtain ⟨a, qa, ha, _, hqa, _, hac⟩ := rd.get (i := m) (by omega)
          obtain ⟨c, qc, hc, _, hqc, _, hcc⟩ := rd.get (i := m - 1) (by omega)
          rw [hgm] at ha
          cases ha
          rw [hgx] at hc
          cases hc
          rw [hpy] at hqa hqc
          cases hqa
          cases hqc
          rw [em]
          refine r_ix py hpy (by omega) (by omega) ?_
          refine r_ix py hpy (by omega) (by omega) ?_
          simp only [Int.toNat_natCast]
          have hb3 : ldOk w7 32 ⟨b3, 0, none⟩ .agg (u8s z).toArray := ldOk_blk h.swap 0 rfl (by simp [hz32.1])
          have hne : x ≠ k := fun e => hin (e ▸ List.mem_of_getElem? hx)
          have yes_ : ∀ {w' : World}, At w7 w' [] → cmpL k x < 0 → ∃ s' : Unit, embL [] s' = [] ∧ ∃ x, 0 < m ∧ S[m - 1]? = some x ∧ ltL k x ∧ At w w' (L6 ++ [(b3, (u8s z).toArray, ty_impl_Key)]) := fun hA hc => ⟨(), rfl, x, by omega, hx, hc, h.trans hA.below⟩
          have no_ : ¬ cmpL k x < 0 → posK S k = m := fun hc => posK_is hSa hm hgt fun y _ hy => by
            rw [hx] at hy
            cases hy
            rcases ltL_total hne with h | h
            · exact h
            · exact absurd h hc
          have hA := At.refl w7
          generalize py.add (m * 32) = pa at hac ⊢
          generalize py.add ((m - 1) * 32) = pc at hcc ⊢
          have hX : ∀ a, keyOk a → ∀ w, Ret Tryz.prog n_spec_l01Xor [.agg (u8s a).toArray, .agg (u8s z).toArray] w [.agg] (fun r _ => r = (u8s a).toArray) := fun a ha w => c_l01Xor ha hz w
          have hC : ∀ w, Ret Tryz.prog n_spec_l01Compare [.agg (u8s k).toArray, .agg (u8s x).toArray] w [.int .i64] (fun r _ => r = cmpL k x) := c_l01Compare hko.1 hxo.1
          generalize n_spec_l01Xor = nX at hX ⊢
          generalize n_spec_l01Compare = nC at hC ⊢
          generalize Tryz.prog = PP at hX hC ⊢
          repeat' first
            | refine r_all2 ?_ ?_
            | refine r_all3 ?_ ?_ ?_
            | refine r_allQ ?_ ?_ ?_ ?_
            | refine r_ldN (p := pa) (u8s k).toArray (ldOk_below hA.below hac) ?_
            | refine r_ldN (p := pc) (u8s x).toArray (ldOk_below hA.below hcc) ?_
            | refine r_ldN (p := ⟨b3, 0, none⟩) (u8s z).toArray (ldOk_below hA.below hb3) ?_
            | (refine r_call hA (hX k hko _) fun r w' hA _ hr => ?_; subst hr)
            | (refine r_call hA (hX x hxo _) fun r w' hA _ hr => ?_; subst hr)
            | (refine r_call hA (hC _) fun r w' hA _ hr => ?_; subst hr)
            | exact r_if (cmpL k x < 0) rfl (fun hc => yes_ hA hc) (fun hc => ⟨(y28, ((j + 1 : Nat) : Int)), by rw [w64 (by omega) (by omega)]; rfl, ⟨j + 1, L6, rfl, by omega, (done_ (no_ hc)).1.symm, (done_ (no_ hc)).2, h.trans hA.below⟩, by dsimp only; omega⟩)
        · have hd := done_ (posK_is hSa hm hgt fun y h0' _ => absurd h0' (by omega))
          repeat' first
            | refine r_all2 ?_ ?_
            | refine r_all3 ?_ ?_ ?_
            | refine r_allQ ?_ ?_ ?_ ?_
            | exact ⟨(y28, ((j + 1 : Nat) : Int)), by rw [w64 (by omega) (by omega)]; rfl, ⟨j + 1, L6, rfl, by omega, hd.1.symm, hd.2, h⟩, by dsimp only; omega⟩
  · have : j = ks.length := by omega
    subst this
    rw [List.take_of_length_le (Nat.le_refl _)] at hsn hO
    exact r_ret h.nil so rfl ⟨(hO.slo h).base, hsn⟩)

end Go.Proofs.YtkifkdkjljcclaaGreat
