/- LinkPath's plain law: a search in breadth. -/
import Derived.Test.YtghoeeiiaadngaaGreatY3
namespace Go.Proofs.YtghoeeiiaadngaaGreat
open Go.Sx Go.RowKit

/-- A link that is met at index i. -/
def visit (B : List PB) (i : Nat) (s : List (List Int) × List Nat) (l : List Int) : List (List Int) × List Nat := if l ∈ s.1 ∨ l ∉ keysOf B then s else (s.1 ++ [l], s.2 ++ [i])
def blobAt (B : List PB) (k : List Int) : PB := B.getD (posK (keysOf B) k) ⟨0, []⟩
/-- What is met when the first i of those that were met are gone through. -/
def met (B : List PB) (x : List Int) : Nat → List (List Int) × List Nat
  | 0 => ([x], [0])
  | i + 1 => if i < (met B x i).1.length then (links (blobAt B ((met B x i).1.getD i []))).foldl (visit B i) (met B x i) else met B x i

theorem met_succ (B : List PB) (x : List Int) (i : Nat) : met B x (i + 1) = if i < (met B x i).1.length then (links (blobAt B ((met B x i).1.getD i []))).foldl (visit B i) (met B x i) else met B x i := rfl
theorem visit_grow (B : List PB) (i : Nat) (s : List (List Int) × List Nat) (l : List Int) : ∃ t u, (visit B i s l).1 = s.1 ++ t ∧ (visit B i s l).2 = s.2 ++ u ∧ t.length = u.length := by
  unfold visit
  split
  · exact ⟨[], [], by simp, by simp, rfl⟩
  · exact ⟨[l], [i], rfl, rfl, rfl⟩
theorem fold_grow (B : List PB) (i : Nat) (ls : List (List Int)) : ∀ s : List (List Int) × List Nat, ∃ t u, (ls.foldl (visit B i) s).1 = s.1 ++ t ∧ (ls.foldl (visit B i) s).2 = s.2 ++ u ∧ t.length = u.length := by
  induction ls with
  | nil => exact fun s => ⟨[], [], by simp, by simp, rfl⟩
  | cons l r ih =>
    intro s
    obtain ⟨t, u, h1, h2, h3⟩ := visit_grow B i s l
    obtain ⟨t', u', h1', h2', h3'⟩ := ih (visit B i s l)
    exact ⟨t ++ t', u ++ u', by rw [List.foldl_cons, h1', h1, List.append_assoc], by rw [List.foldl_cons, h2', h2, List.append_assoc], by simp [h3, h3']⟩
theorem met_grow (B : List PB) (x : List Int) (i : Nat) : ∃ t u, (met B x (i + 1)).1 = (met B x i).1 ++ t ∧ (met B x (i + 1)).2 = (met B x i).2 ++ u ∧ t.length = u.length := by
  rw [met_succ]
  split
  · exact fold_grow B i _ _
  · exact ⟨[], [], by simp, by simp, rfl⟩
theorem met_mono (B : List PB) (x : List Int) (i k : Nat) : ∃ t u, (met B x (i + k)).1 = (met B x i).1 ++ t ∧ (met B x (i + k)).2 = (met B x i).2 ++ u := by
  induction k with
  | zero => exact ⟨[], [], by simp, by simp⟩
  | succ k ih =>
    obtain ⟨t, u, h1, h2⟩ := ih
    obtain ⟨t', u', h1', h2', _⟩ := met_grow B x (i + k)
    exact ⟨t ++ t', u ++ u', by rw [← Nat.add_assoc, h1', h1, List.append_assoc], by rw [← Nat.add_assoc, h2', h2, List.append_assoc]⟩
theorem met_stop {B : List PB} {x : List Int} {i : Nat} (h : (met B x i).1.length ≤ i) (k : Nat) : met B x (i + k) = met B x i := by
  induction k with
  | zero => rfl
  | succ k ih =>
    rw [← Nat.add_assoc]
    rw [met_succ, ih, if_neg (by omega)]
theorem met_len (B : List PB) (x : List Int) (i : Nat) : (met B x i).1.length = (met B x i).2.length := by
  induction i with
  | zero => rfl
  | succ i ih =>
    obtain ⟨t, u, h1, h2, h3⟩ := met_grow B x i
    rw [h1, h2, List.length_append, List.length_append, ih, h3]

/-- What holds of all states of the search. -/
structure MetOk (B : List PB) (x : List Int) (s : List (List Int) × List Nat) : Prop where
  nodup : s.1.Nodup
  inB : ∀ k ∈ s.1, k ∈ keysOf B
  len : s.1.length = s.2.length
  first : s.1[0]? = some x
  par : ∀ j p, 0 < j → s.2[j]? = some p → p < j
theorem MetOk.visit {B : List PB} {x : List Int} {s : List (List Int) × List Nat} {i : Nat} (h : MetOk B x s) (hi : i < s.1.length) (l : List Int) : MetOk B x (visit B i s l) := by
  unfold Go.Proofs.YtghoeeiiaadngaaGreat.visit
  split
  · exact h
  · rename_i hh
    simp only [not_or, Decidable.not_not] at hh
    refine ⟨?_, ?_, by simp [h.len], ?_, ?_⟩
    · exact List.nodup_append.2 ⟨h.nodup, by simp, fun a ha b hb => by rw [List.mem_singleton.1 hb]; exact fun e => hh.1 (e ▸ ha)⟩
    · intro k hk
      rcases List.mem_append.1 hk with hk | hk
      · exact h.inB k hk
      · rw [List.mem_singleton.1 hk]; exact hh.2
    · rw [List.getElem?_append_left (by omega)]; exact h.first
    · intro j p hj hp
      rcases Nat.lt_or_ge j s.2.length with hlt | hge
      · rw [List.getElem?_append_left hlt] at hp; exact h.par j p hj hp
      · rw [List.getElem?_append_right hge] at hp
        have hj0 : j - s.2.length = 0 := by
          rcases Nat.eq_zero_or_pos (j - s.2.length) with h0 | h0
          · exact h0
          · rw [List.getElem?_eq_none (by simp; omega)] at hp; cases hp
        rw [hj0] at hp
        have : i = p := by simpa using hp
        have := h.len
        omega
theorem MetOk.fold {B : List PB} {x : List Int} {i : Nat} (ls : List (List Int)) : ∀ {s : List (List Int) × List Nat}, MetOk B x s → i < s.1.length → MetOk B x (ls.foldl (Go.Proofs.YtghoeeiiaadngaaGreat.visit B i) s) := by
  induction ls with
  | nil => exact fun h _ => h
  | cons l r ih =>
    intro s h hi
    obtain ⟨t, u, h1, _, _⟩ := visit_grow B i s l
    exact ih (h.visit hi l) (by rw [h1, List.length_append]; omega)
theorem met_ok {B : List PB} {x : List Int} (hx : x ∈ keysOf B) : ∀ i, MetOk B x (met B x i)
  | 0 => ⟨by simp [met], by simp [met, hx], rfl, rfl, fun j p hj hp => by
      unfold met at hp
      rw [List.getElem?_eq_none (by simp; omega)] at hp
      cases hp⟩
  | i + 1 => by
    have ih := met_ok hx i
    rw [met_succ]
    split
    · exact ih.fold _ (by assumption)
    · exact ih

end Go.Proofs.YtghoeeiiaadngaaGreat
