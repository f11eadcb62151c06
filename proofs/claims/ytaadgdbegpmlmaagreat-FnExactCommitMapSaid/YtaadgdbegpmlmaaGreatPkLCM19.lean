/- Groups of blocks pulled to the front and put back: more of them. Printed. Rules for slices.Insert: room made by append, copies within one slice, do two slices overlap. A blob is put into the program's store with its keys. Printed by a program of this claim's author (s2.py). -/
import Derived.Lib.Overlaps
import Derived.Test.YtaadgdbegpmlmaaGreatPkLCM17
import Derived.Test.YtaadgdbegpmlmaaGreatPkLCM06
namespace Go.Sx
open Go.RowKit (Below)
variable {w0 w : World}
theorem At.pl11 {V G1 G2 G3 G4 G5 G6 G7 G8 G9 G10 G11 X : List Blk} (h : At w0 w (V ++ (G1 ++ (G2 ++ (G3 ++ (G4 ++ (G5 ++ (G6 ++ (G7 ++ (G8 ++ (G9 ++ (G10 ++ (G11 ++ (X)))))))))))))) : At w0 w (G11 ++ (V ++ (G1 ++ (G2 ++ (G3 ++ (G4 ++ (G5 ++ (G6 ++ (G7 ++ (G8 ++ (G9 ++ (G10 ++ (X))))))))))))) := by
  rw [← List.append_assoc V G1] at h
  have h := At.pl10 h
  rwa [List.append_assoc V G1] at h
theorem At.pl12 {V G1 G2 G3 G4 G5 G6 G7 G8 G9 G10 G11 G12 X : List Blk} (h : At w0 w (V ++ (G1 ++ (G2 ++ (G3 ++ (G4 ++ (G5 ++ (G6 ++ (G7 ++ (G8 ++ (G9 ++ (G10 ++ (G11 ++ (G12 ++ (X))))))))))))))) : At w0 w (G12 ++ (V ++ (G1 ++ (G2 ++ (G3 ++ (G4 ++ (G5 ++ (G6 ++ (G7 ++ (G8 ++ (G9 ++ (G10 ++ (G11 ++ (X)))))))))))))) := by
  rw [← List.append_assoc V G1] at h
  have h := At.pl11 h
  rwa [List.append_assoc V G1] at h
end Go.Sx

namespace Go.Sx
open Go.RowKit (Below)
variable {P : Program} {R : Value → World → Prop} {w0 w : World} {ls L : List Blk} {e z : Nat} {s : Sl} {xs : List Value}

theorem r_chk3 {h1 h2 h3 : Held} {k : World → Prop} (a : ldOk w h1.n h1.p h1.sh h1.x) (b : ldOk w h2.n h2.p h2.sh h2.x) (c : ldOk w h3.n h3.p h3.sh h3.x) (h : k w) : ((real P R).chk [h1, h2, h3] k : World → Prop) w :=
  ⟨fun x hx => by
    rcases List.mem_cons.1 hx with e | hx
    · rw [e]; exact a
    rcases List.mem_cons.1 hx with e | hx
    · rw [e]; exact b
    · rw [List.mem_singleton.1 hx]; exact c, h⟩

/-- An own slice up to more of its room. -/
theorem OwnS.grow (h : OwnS e z s xs L) (n : Nat) (h1 : s.n ≤ n) (h2 : n ≤ s.c) : ∃ ys, OwnS e z ⟨s.a, n, s.c⟩ ys L ∧ ys.take (s.n * z) = xs := by
  obtain ⟨hl, h⟩ := h
  rcases h with ⟨ha, h0, hc, rfl⟩ | ⟨g, cur, rfl, ha, hnc, hcm, hcs, htk⟩
  · have hn : n = 0 := by omega
    subst hn
    refine ⟨[], ⟨by simp, .inl ⟨ha, rfl, hc, rfl⟩⟩, ?_⟩
    rw [h0] at hl
    rw [List.take_nil, List.eq_nil_of_length_eq_zero (by omega : xs.length = 0)]
  · have hb : n * z ≤ s.c * z := Nat.mul_le_mul_right _ h2
    have hb1 : s.n * z ≤ n * z := Nat.mul_le_mul_right _ h1
    refine ⟨cur.toList.take (n * z), ⟨by simp; omega, .inr ⟨g, cur, rfl, ha, h2, hcm, hcs, ?_⟩⟩, ?_⟩
    · simp only [List.length_take, Array.length_toList]
      rw [show min (n * z) cur.size = n * z by omega]
    · rw [List.take_take, show min (s.n * z) (n * z) = s.n * z by omega, ← hl]
      exact htk

end Go.Sx

namespace Go.Proofs.YtaadgdbegpmlmaaGreat
open Go.Sx Go.RowKit

def insAt {α : Type} (i : Nat) (x : α) (l : List α) : List α := l.take i ++ [x] ++ l.drop i
theorem mem_insAt {α : Type} {i : Nat} {x y : α} {l : List α} (h : y ∈ insAt i x l) : y = x ∨ y ∈ l := by
  simp only [insAt, List.mem_append, List.mem_singleton] at h
  rcases h with (h | h) | h
  · exact .inr (List.mem_of_mem_take h)
  · exact .inl h
  · exact .inr (List.mem_of_mem_drop h)
theorem insAt_len {α : Type} {i : Nat} {x : α} {l : List α} (h : i ≤ l.length) : (insAt i x l).length = l.length + 1 := by simp [insAt]; omega

theorem ltL_of_not {a b : List Int} (h : ¬ ltL a b) (hne : a ≠ b) : ltL b a := by
  unfold ltL at *
  have := cmpL_range a b
  have h0 : cmpL a b ≠ 0 := fun hh => hne (cmpL_eq.1 hh)
  rw [cmpL_neg a b]
  omega
theorem asc_insAt {ks : List (List Int)} {k : List Int} (h : Asc ks) (hk : k ∉ ks) : Asc (insAt (posK ks k) k ks) := by
  have hl : ∀ x ∈ ks.take (posK ks k), ltL x k := by
    intro x hx
    obtain ⟨i, hi⟩ := List.mem_iff_getElem?.1 hx
    rw [List.getElem?_take] at hi
    split at hi
    · exact (posK_lt h hi).1 (by assumption)
    · cases hi
  have hr : ∀ x ∈ ks.drop (posK ks k), ltL k x := by
    intro x hx
    obtain ⟨i, hi⟩ := List.mem_iff_getElem?.1 hx
    rw [List.getElem?_drop] at hi
    refine ltL_of_not (fun hh => ?_) (fun hh => hk (hh ▸ List.mem_of_getElem? hi))
    have := (posK_lt h hi).2 hh
    omega
  unfold Asc insAt
  rw [List.append_assoc]
  refine List.pairwise_append.2 ⟨List.Pairwise.sublist (List.take_sublist _ _) h, List.pairwise_cons.2 ⟨hr, List.Pairwise.sublist (List.drop_sublist _ _) h⟩, ?_⟩
  intro a ha b hb
  rcases List.mem_cons.1 hb with rfl | hb
  · exact hl a ha
  · exact ltL_trans (hl a ha) (hr b hb)

def zero32 : List Int := List.replicate 32 0
theorem zero32_ok : keyOk zero32 := ⟨rfl, by intro b hb; simp [zero32] at hb; omega⟩

end Go.Proofs.YtaadgdbegpmlmaaGreat
