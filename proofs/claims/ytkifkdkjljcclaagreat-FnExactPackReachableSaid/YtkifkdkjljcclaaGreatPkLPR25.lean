/- Rules for slices.Insert: room made by append, copies within one slice, do two slices overlap. -/
import Derived.Lib.Overlaps
import Derived.Test.YtkifkdkjljcclaaGreatPkLPR17
namespace Go.Sx
open Go.RowKit (Below)
variable {P : Program} {R : Value → World → Prop} {w0 w : World} {ls L : List Blk} {e z : Nat} {s : Sl} {xs : List Value}

theorem r_chk3 {h1 h2 h3 : Held} {k : World → Prop} (a : ldOk w h1.n h1.p h1.sh h1.x) (b : ldOk w h2.n h2.p h2.sh h2.x) (c : ldOk w h3.n h3.p h3.sh h3.x) (h : k w) : ((real P R).chk [h1, h2, h3] k : World → Prop) w :=
  ⟨fun x hx => by
    rcases List.mem_cons.1 hx with e | hx
    · rw [e]; exact a
    rcases List.mem_cons.1 hx with e | hx
    · rw [e]; exact b
    · rw [List.mem_singleton.1 hx]; exact c, h⟩

theorem OwnS.grow (h : OwnS e z s xs L) (n : Nat) (h1 : s.n ≤ n) (h2 : n ≤ s.c) : ∃ ys, OwnS e z ⟨s.a, n, s.c⟩ ys L ∧ ys.take (s.n * z) = xs := by
  obtain ⟨hl, h⟩ := h
  rcases h with ⟨ha, h0, hc, rfl⟩ | ⟨g, cur, rfl, ha, hnc, hcm, hcs, htk⟩
  · have hn : n = 0 := by omega
    subst hn
    refine ⟨[], ⟨by simp, .inl ⟨ha, rfl, hc, rfl⟩⟩, ?_⟩
    rw [h0] at hl
    rw [List.take_nil, List.eq_nil_of_length_eq_zero (by omega : xs.length = 0)]
  · have hb : n * z ≤ s.c * z := Nat.mul_le_mul_right _ h2
    have hb1 : s.n * z ≤ n * z := Nat.mul_le_mul_right _ h1
    refine ⟨cur.toList.take (n * z), ⟨by simp; omega, .inr ⟨g, cur, rfl, ha, h2, hcm, hcs, ?_⟩⟩, ?_⟩
    · simp only [List.length_take, Array.length_toList]
      rw [show min (n * z) cur.size = n * z by omega]
    · rw [List.take_take, show min (s.n * z) (n * z) = s.n * z by omega, ← hl]
      exact htk

end Go.Sx
