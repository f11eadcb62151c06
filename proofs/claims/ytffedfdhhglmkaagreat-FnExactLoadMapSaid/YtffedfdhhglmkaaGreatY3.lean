/- LinkCounts, RootsOf: what the program and the reference answer. Printed in part by a program of this claim's author (y3.py). -/
import Derived.Test.YtffedfdhhglmkaaGreatY2
import Derived.Test.YtffedfdhhglmkaaGreatV5
namespace Go.Sx
theorem r_mkI {P : Program} {R : Value → World → Prop} {w0 w : World} {ls : List Blk} {t e by_ : Nat} {k0 : IntKind} (hT : SlT P t e 1 by_) (hz0 : (P.info? e).bind (·.zero) = some (.int k0 0)) (hA : At w0 w ls) {n : Nat} (hb : by_ * n ≤ 281474976710656) (hn : n ≤ 281474976710656) {k : Sl → World → Prop}
    (h : ∀ s L w', At w0 w' (L ++ ls) → OwnS e 1 s (List.replicate n (.int k0 0)) L → s.n = n → (∃ p, s.a = some p) → k s w') :
    ((real P R).sem (Instr.makeSlice t (.int .i64 (n : Int)) (.int .i64 (n : Int))) .slice k : World → Prop) w := by
  obtain ⟨i, zv, hi, hzv, hsz, hby, hzs⟩ := hT.ex
  have hm : ((by_ : Int) * (n : Int)) = ((by_ * n : Nat) : Int) := by simp
  have hr := run_make w t e i zv hT.ut hi hzv .i64 .i64 (n : Int) (n : Int) (by omega) (Int.le_refl _) (by rw [hby, hm]; omega) (by omega)
  have hzv' : zv = .int k0 0 := by rw [hi] at hz0; simpa [hzv] using hz0
  have hcur : (madeCells zv.cells (n * 1)).toList = List.replicate n (.int k0 0) := by
    subst hzv'
    apply List.ext_getElem?
    intro j
    simp only [madeCells, Nat.mul_one, Array.toList_map, List.getElem?_map, Array.toList_range]
    rcases Nat.lt_or_ge j n with hj | hj
    · simp [hj, Value.cells, Nat.mod_one]
    · rw [List.getElem?_eq_none (by simp; omega), List.getElem?_eq_none (by simp; omega)]; rfl
  refine ⟨⟨some ⟨w.heap.size, 0, none⟩, n, n⟩, w.alloc (.cells (madeCells zv.cells (n * 1)) e), ?_, h ⟨some ⟨w.heap.size, 0, none⟩, n, n⟩ [(w.heap.size, madeCells zv.cells (n * 1), e)] _ ((hA.trans (below_alloc w _)).add (heap_alloc_self w _) hA.size (hA.fresh (Nat.le_refl _))) ⟨by simp, .inr ⟨_, _, rfl, rfl, Nat.le_refl _, by unfold maxLen; show n ≤ _; omega, by rw [size_madeCells], by rw [hcur, List.length_replicate, List.take_of_length_le (by simp)]⟩⟩ rfl ⟨_, rfl⟩⟩
  rw [hr, hsz]
  rfl
end Go.Sx
namespace Go.Proofs.YtffedfdhhglmkaaGreat
open Go.Sx Go.RowKit

def incr (ks : List (List Int)) (c : List Int) (k : List Int) : List Int := if k ∈ ks then c.set (posK ks k) (c.getD (posK ks k) 0 + 1) else c
def countsOf (B : List PB) : List Int := (B.flatMap links).foldl (incr (keysOf B)) (List.replicate B.length 0)
theorem incr_len (ks : List (List Int)) (c : List Int) (k : List Int) : (incr ks c k).length = c.length := by unfold incr; split <;> simp
theorem incr_bd {ks : List (List Int)} {c : List Int} {t : Nat} (k : List Int) (h : ∀ x ∈ c, 0 ≤ x ∧ x ≤ (t : Int)) : ∀ x ∈ incr ks c k, 0 ≤ x ∧ x ≤ ((t + 1 : Nat) : Int) := by
  intro x hx
  unfold incr at hx
  split at hx
  · rcases List.mem_or_eq_of_mem_set hx with hx | rfl
    · have := h x hx; omega
    · have : 0 ≤ c.getD (posK ks k) 0 ∧ c.getD (posK ks k) 0 ≤ (t : Int) := by
        simp only [List.getD]
        cases hg : c[posK ks k]? with
        | none => simp
        | some y => simpa using h y (List.mem_of_getElem? hg)
      omega
  · have := h x hx; omega
theorem links_total {l : List PB} (h : ∀ b ∈ l, b.data.length ≤ 1024) : (l.flatMap links).length ≤ l.length * 1024 := by
  induction l with
  | nil => simp
  | cons b r ih =>
    have h1 := links_len b
    have h2 := h b (by simp)
    have := ih (fun x hx => h x (by simp [hx]))
    rw [List.flatMap_cons, List.length_append, List.length_cons]
    omega
theorem foldl_len (ks ls : List (List Int)) (c : List Int) : (ls.foldl (incr ks) c).length = c.length := by
  induction ls generalizing c with
  | nil => rfl
  | cons a r ih => rw [List.foldl_cons, ih, incr_len]
theorem countsOf_len (B : List PB) : (countsOf B).length = B.length := by unfold countsOf; rw [foldl_len, List.length_replicate]

/-! ### LinkCounts -/
def linkAns (B : List PB) : List Int × Int := if validS B then (countsOf B, 0) else ([], 1)
theorem linkAns_small (B : List PB) : sizeInt64S (linkAns B).1 ≤ sizeBs B := by
  unfold linkAns sizeInt64S
  split
  · rw [countsOf_len]; exact le_sizeBs B
  · simp

theorem T_own_nil64 {w0 w : World} {ls : List Blk} {s : Sl} (h : SlO w0 w ls ty_int64 1 s []) : ∃ L, At w0 w L ∧ OwnInt64S s [] L := by
  obtain ⟨L, hO, hA⟩ := h.split
  exact ⟨L, hA.left, hO⟩

/-! ### RootsOf -/
def rootFlags (B : List PB) : List Bool := (countsOf B).map fun x => decide (x = 0)
def rootsAns (B : List PB) : List (List Int) × Int := if validS B then (keepL (rootFlags B) (keysOf B), 0) else ([], 1)
theorem rootFlags_len (B : List PB) : (rootFlags B).length = B.length := by unfold rootFlags; rw [List.length_map, countsOf_len]
theorem rootsAns_small (B : List PB) : sizeKeyS (rootsAns B).1 ≤ sizeBs B := by
  unfold rootsAns sizeKeyS
  split
  · have := keepL_len (rootFlags B) (keysOf B)
    rw [keysOf_len] at this
    have := le_sizeBs B
    dsimp only
    omega
  · simp
theorem rootsAns_msmall (B : List PB) : msizeKeyS (rootsAns B).1 ≤ 32 * sizeBs B := by
  have := rootsAns_small B
  unfold sizeKeyS at this
  unfold msizeKeyS
  omega
end Go.Proofs.YtffedfdhhglmkaaGreat
