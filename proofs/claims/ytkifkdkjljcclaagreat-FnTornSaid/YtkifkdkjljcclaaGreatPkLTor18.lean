/- A blob is put into the program's store with its keys. Printed by a program of this claim's author (s2.py). Blobs are put into the program's store, one after the other; PutBlob's answer. -/
import Derived.Test.YtkifkdkjljcclaaGreatPkLTor17
namespace Go.Proofs.YtkifkdkjljcclaaGreat
open Go.Sx Go.RowKit

def insAt {α : Type} (i : Nat) (x : α) (l : List α) : List α := l.take i ++ [x] ++ l.drop i
theorem insAt_map {α β : Type} (f : α → β) (i : Nat) (x : α) (l : List α) : (insAt i x l).map f = insAt i (f x) (l.map f) := by simp [insAt, List.map_take, List.map_drop]
theorem mem_insAt {α : Type} {i : Nat} {x y : α} {l : List α} (h : y ∈ insAt i x l) : y = x ∨ y ∈ l := by
  simp only [insAt, List.mem_append, List.mem_singleton] at h
  rcases h with (h | h) | h
  · exact .inr (List.mem_of_mem_take h)
  · exact .inl h
  · exact .inr (List.mem_of_mem_drop h)
theorem insAt_len {α : Type} {i : Nat} {x : α} {l : List α} (h : i ≤ l.length) : (insAt i x l).length = l.length + 1 := by simp [insAt]; omega

theorem ltL_of_not {a b : List Int} (h : ¬ ltL a b) (hne : a ≠ b) : ltL b a := by
  unfold ltL at *
  have := cmpL_range a b
  have h0 : cmpL a b ≠ 0 := fun hh => hne (cmpL_eq.1 hh)
  rw [cmpL_neg a b]
  omega
theorem asc_insAt {ks : List (List Int)} {k : List Int} (h : Asc ks) (hk : k ∉ ks) : Asc (insAt (posK ks k) k ks) := by
  have hl : ∀ x ∈ ks.take (posK ks k), ltL x k := by
    intro x hx
    obtain ⟨i, hi⟩ := List.mem_iff_getElem?.1 hx
    rw [List.getElem?_take] at hi
    split at hi
    · exact (posK_lt h hi).1 (by assumption)
    · cases hi
  have hr : ∀ x ∈ ks.drop (posK ks k), ltL k x := by
    intro x hx
    obtain ⟨i, hi⟩ := List.mem_iff_getElem?.1 hx
    rw [List.getElem?_drop] at hi
    refine ltL_of_not (fun hh => ?_) (fun hh => hk (hh ▸ List.mem_of_getElem? hi))
    have := (posK_lt h hi).2 hh
    omega
  unfold Asc insAt
  rw [List.append_assoc]
  refine List.pairwise_append.2 ⟨List.Pairwise.sublist (List.take_sublist _ _) h, List.pairwise_cons.2 ⟨hr, List.Pairwise.sublist (List.drop_sublist _ _) h⟩, ?_⟩
  intro a ha b hb
  rcases List.mem_cons.1 hb with rfl | hb
  · exact hl a ha
  · exact ltL_trans (hl a ha) (hr b hb)

def zero32 : List Int := List.replicate 32 0
theorem zero32_ok : keyOk zero32 := ⟨rfl, by intro b hb; simp [zero32] at hb; omega⟩

def putAns (B : List PB) (c : PB) : List PB × List Int × Int :=
  if c.key ∈ keysOf B then (if B[posK (keysOf B) c.key]? = some c then (B, c.key, 0) else (B, zero32, 8))
  else if 128 ≤ B.length then (B, zero32, 3) else (insAt (posK (keysOf B) c.key) c B, c.key, 0)
theorem putAns_key (B : List PB) (c : PB) (hc : keyOk c.key) : keyOk (putAns B c).2.1 := by
  unfold putAns
  split
  · split
    · exact hc
    · exact zero32_ok
  · split
    · exact zero32_ok
    · exact hc

theorem flatMap_insAt {α : Type} {z : Nat} {f : α → List Value} {l : List α} (hl : ∀ x ∈ l, (f x).length = z) (i : Nat) (x : α) : (l.flatMap f).take (i * z) ++ f x ++ (l.flatMap f).drop (i * z) = (insAt i x l).flatMap f := by
  have key : ∀ (n : Nat) (ys : List α), (∀ x ∈ ys, (f x).length = z) → (ys.flatMap f).take (n * z) = (ys.take n).flatMap f ∧ (ys.flatMap f).drop (n * z) = (ys.drop n).flatMap f := by
    intro n
    induction n with
    | zero => intro ys _; simp
    | succ n ih =>
      intro ys hy
      cases ys with
      | nil => simp
      | cons y r =>
        have hz := hy y (by simp)
        obtain ⟨i1, i2⟩ := ih r (fun x hx => hy x (by simp [hx]))
        rw [List.flatMap_cons, Nat.add_mul, Nat.one_mul, Nat.add_comm, List.take_succ_cons, List.drop_succ_cons, List.flatMap_cons]
        constructor
        · rw [List.take_append, hz, List.take_of_length_le (by omega), Nat.add_sub_cancel_left, i1]
        · rw [List.drop_append, hz, List.drop_eq_nil_of_le (by omega), Nat.add_sub_cancel_left, i2, List.nil_append]
  rw [(key i l hl).1, (key i l hl).2]
  simp [insAt]

theorem flatU8_one (ks : List (List Int)) : ∀ v ∈ ks.flatMap u8s, oneC v = true := by
  intro v hv
  obtain ⟨k, _, hk⟩ := List.mem_flatMap.1 hv
  exact u8s_one v hk

end Go.Proofs.YtkifkdkjljcclaaGreat

namespace Go.Proofs.YtkifkdkjljcclaaGreat
open Go.Sx Go.RowKit

def good (B : List PB) : Prop := Asc (keysOf B) ∧ B.length ≤ 128 ∧ ∀ b ∈ B, b.data.length ≤ 35184372088832 ∧ b.ok
theorem good_of {B : List PB} (h : validS B) (hok : ∀ b ∈ B, b.ok) : good B := ⟨h.2.2, h.1, fun b hb => ⟨by have := h.2.1 b hb; omega, hok b hb⟩⟩
theorem putAns_good {B : List PB} {c : PB} (h : good B) (hc : c.data.length ≤ 35184372088832 ∧ c.ok) : good (putAns B c).1 := by
  unfold putAns
  split
  · split <;> exact h
  · rename_i hm
    split
    · exact h
    · rename_i hl
      have hp := posK_le (keysOf B) c.key
      rw [keysOf_len] at hp
      refine ⟨?_, by dsimp only; rw [insAt_len hp]; omega, fun b hb => ?_⟩
      · dsimp only
        have : keysOf (insAt (posK (keysOf B) c.key) c B) = insAt (posK (keysOf B) c.key) c.key (keysOf B) := by unfold keysOf; rw [insAt_map]
        rw [this]
        exact asc_insAt h.1 hm
      · rcases mem_insAt hb with rfl | hb
        · exact hc
        · exact h.2.2 b hb

def putsAns : List PB → List Int → List PB → List PB × List Int × Int
  | B, k, [] => (B, k, 0)
  | B, _, c :: r => if (putAns B c).2.2 ≠ 0 then ([], zero32, (putAns B c).2.2) else putsAns (putAns B c).1 (putAns B c).2.1 r

def putBAns (B : List PB) (c : PB) : List PB × List Int × Int := if validS B ∧ c.data.length ≤ 1024 then putsAns B zero32 [c] else ([], zero32, 1)

end Go.Proofs.YtkifkdkjljcclaaGreat
