/- Arguments opened at their cells: slices of anything, slices of bytes, stores. -/
import Derived.Test.YtffedfdhhglmkaaGreatR0
import Derived.Test.YtffedfdhhglmkaaGreatW0
import Derived.ChangeSame
namespace Go.Sx
open Go.ChangeShapes Go.WideShapes Go.ChangeAt Go.RowKit Go.Deep

section
variable {H : Type} {enc : TypeId × Value → H} {P : Program} {w : World} {base : Nat} {spare : Nat → Bool} {held : Bool}

theorem trod_sl {α : Type} [Inhabited α] {t u z : Nat} {cells : α → List Value} {ok : α → Prop} (ht : P.underlying t = some (.slice u)) (hc : P.cellsOf u = z) (hz : 0 < z) (hlen : ∀ a, ok a → (cells a).length = z)
    (elem : ∀ (fuel : Nat) (cs : List Value) (x : DataW H × List MemPlace), DataW.trod enc P w base spare held fuel u cs = some x → ∃ a : α, cs = cells a ∧ ok a)
    {fuel : Nat} {cs : List Value} {x : DataW H × List MemPlace} (h : DataW.trod enc P w base spare held fuel t cs = some x) :
    ∃ (s : Sl) (xs : List α), cs = [.slice s.a s.n s.c] ∧ SlOf w s z cells xs ∧ s.c ≤ maxLen ∧ ∀ a ∈ xs, ok a := by
  rcases open_slice ht h with ⟨rfl, _⟩ | ⟨a', len, cap, m, k, D, Pl, rfl, _, hl, hm, hmm, _, hx⟩
  · exact ⟨⟨none, 0, 0⟩, [], rfl, SlOf.nil hz, Nat.zero_le _, by simp⟩
  · have hlm : len ≤ m := by rw [hmm]; split <;> omega
    obtain ⟨g, hg⟩ := choose_lt (α := α) (n := len) (p := fun i y => ok y ∧ ∀ j v, (cells y)[j]? = some v → w.cell? ((a'.add (i * z)).add j) = some v) (fun i hi => by
      obtain ⟨cs', h1, h2⟩ := hx i (by omega)
      rw [hc] at h1
      obtain ⟨y, rfl, hy⟩ := elem _ _ _ h2
      obtain ⟨_, hlen', hcell⟩ := World.cells?_some h1
      refine ⟨y, hy, fun j v hv => ?_⟩
      rw [hcell j (by have := (List.getElem?_eq_some_iff.1 hv).1; omega), hv])
    have hmem : ∀ y ∈ (List.range len).map g, ok y := by
      intro y hy
      simp only [List.mem_map, List.mem_range] at hy
      obtain ⟨i, hi, rfl⟩ := hy
      exact (hg i hi).1
    have hone : ∀ y ∈ (List.range len).map g, (cells y).length = z := fun y hy => hlen y (hmem y hy)
    have hfl : (((List.range len).map g).flatMap cells).length = len * z := by rw [flatMap_length hone]; simp
    refine ⟨⟨some a', len, cap⟩, (List.range len).map g, rfl, ⟨⟨hfl, fun j v hv => ⟨a', rfl, ?_⟩⟩, hone, hl, hz⟩, hm, hmem⟩
    have hj : j < len * z := by rw [← hfl]; exact (List.getElem?_eq_some_iff.1 hv).1
    have hi : j / z < len := (Nat.div_lt_iff_lt_mul hz).2 hj
    have hr : j % z < z := Nat.mod_lt _ hz
    obtain ⟨h1, h2⟩ := hg (j / z) hi
    have hr' : j % z < (cells (g (j / z))).length := by rw [hlen _ h1]; exact hr
    have e := flatMap_get (cs := cells) (i := j / z) (j := j % z) hone (by simp [hi]) (List.getElem?_eq_getElem hr')
    rw [Nat.div_add_mod', hv] at e
    have := h2 (j % z) _ (List.getElem?_eq_getElem hr')
    rwa [add_add, Nat.div_add_mod', ← e] at this

theorem trod_u8s {t e : Nat} (ht : P.underlying t = some (.slice e)) (he : P.underlying e = some (.int .u8)) (hc : P.cellsOf e = 1) {fuel : Nat} {cs : List Value} {x : DataW H × List MemPlace} (h : DataW.trod enc P w base spare held fuel t cs = some x) :
    ∃ (s : Sl) (l : List Int), cs = [.slice s.a s.n s.c] ∧ SlAt w s 1 (l.map (Value.int .u8)) ∧ (∀ b ∈ l, 0 ≤ b ∧ b < 256) ∧ s.n ≤ s.c ∧ s.c ≤ maxLen := by
  obtain ⟨s, xs, h1, h2, h3, h4⟩ := trod_sl (α := Int) (ok := fun b => 0 ≤ b ∧ b < 256) (cells := fun b => [Value.int .u8 b]) ht hc (by omega) (fun _ _ => rfl) (fun fuel cs x h => by
    obtain ⟨b, hb, _, hw⟩ := DataW.trod_int he h
    have hb2 := bounds_u8 hw
    exact ⟨b, hb, hb2.1, by omega⟩) h
  refine ⟨s, xs, h1, ?_, h4, h2.cap, h3⟩
  have := h2.sl
  rwa [show xs.flatMap (fun b => [Value.int .u8 b]) = xs.map (Value.int .u8) from (List.map_eq_flatMap ..).symm] at this

theorem okWide_struct {r : Reach} {b0 : Nat} {t : TypeId} {fs : Array Field} {v : Value} (ht : P.underlying t = some (.struct fs)) (h : Value.okWide P w r b0 t v) : ∃ cs, v = .agg cs := by
  simp only [Value.okWide, ht] at h
  obtain ⟨cs, h1, _⟩ := h
  exact ⟨cs, h1⟩
/-- A type's fields: their types and where they stand. -/
def structB (P : Program) (t : TypeId) (l : List (TypeId × Nat)) : Bool := match P.underlying t with
  | some (.struct fs) => (fs.toList.map fun f => (f.type, f.offset)) == l
  | _ => false
theorem structB_of {t : TypeId} {l : List (TypeId × Nat)} (h : structB P t l = true) : ∃ fs, P.underlying t = some (.struct fs) ∧ fs.toList.map (fun f => (f.type, f.offset)) = l := by
  unfold structB at h
  split at h
  · rename_i fs hu
    exact ⟨fs, hu, by simpa using h⟩
  · cases h
theorem okWide_structB {r : Reach} {b0 : Nat} {t : TypeId} {l : List (TypeId × Nat)} {v : Value} (ht : structB P t l = true) (h : Value.okWide P w r b0 t v) : ∃ cs, v = .agg cs := by
  obtain ⟨fs, hu, _⟩ := structB_of ht
  exact okWide_struct hu h
theorem trod_fields {t : TypeId} {l : List (TypeId × Nat)} {fuel : Nat} {cs : List Value} {x : DataW H × List MemPlace} (ht : structB P t l = true) (h : DataW.trod enc P w base spare held fuel t cs = some x) :
    cs.length = P.cellsOf t ∧ ∀ (i : Nat) ty off, l[i]? = some (ty, off) → ∃ n y, DataW.trod enc P w base spare held n ty ((cs.drop off).take (P.cellsOf ty)) = some y := by
  obtain ⟨fs, hu, hl⟩ := structB_of ht
  obtain ⟨xs, n, _, rfl, hlen, hxl, hf⟩ := DataW.trod_struct hu h
  refine ⟨hlen, fun i ty off hi => ?_⟩
  rw [← hl, List.getElem?_map] at hi
  cases hfi : fs.toList[i]? with
  | none => rw [hfi] at hi; cases hi
  | some f =>
    rw [hfi] at hi
    simp only [Option.map_some, Option.some.injEq, Prod.mk.injEq] at hi
    obtain ⟨rfl, rfl⟩ := hi
    have hfi' : fs[i]? = some f := by rw [← Array.getElem?_toList]; exact hfi
    have := hf i f hfi'
    have hlt : i < xs.length := by rw [hxl]; exact (Array.getElem?_eq_some_iff.1 hfi').1
    rw [List.getElem?_eq_getElem hlt] at this
    exact ⟨n, _, this⟩

/-- A record of a byte and bytes. -/
theorem trod_tagged {t b s e : TypeId} {fuel : Nat} {cs : List Value} {x : DataW H × List MemPlace} (ht : structB P t [(b, 0), (s, 1)] = true) (hct : P.cellsOf t = 2) (hcb : P.cellsOf b = 1) (hcs : P.cellsOf s = 1)
    (hb : P.underlying b = some (.int .u8)) (hs : P.underlying s = some (.slice e)) (he : P.underlying e = some (.int .u8)) (hce : P.cellsOf e = 1) (h : DataW.trod enc P w base spare held fuel t cs = some x) :
    ∃ (c : Int) (d : Sl) (l : List Int), cs = [.int .u8 c, .slice d.a d.n d.c] ∧ (0 ≤ c ∧ c < 256) ∧ SlAt w d 1 (l.map (Value.int .u8)) ∧ (∀ b ∈ l, 0 ≤ b ∧ b < 256) ∧ d.n ≤ d.c ∧ d.c ≤ maxLen := by
  obtain ⟨hl, hf⟩ := trod_fields ht h
  obtain ⟨_, _, t0⟩ := hf 0 _ _ rfl
  obtain ⟨_, _, t1⟩ := hf 1 _ _ rfl
  rw [hcb] at t0
  rw [hcs] at t1
  rw [hct] at hl
  match cs, hl with
  | [v0, v1], _ =>
    simp at t0 t1
    obtain ⟨c, hc, _, hw⟩ := DataW.trod_int hb t0
    have hb2 := bounds_u8 hw
    obtain ⟨d, l, hd, k1, k2, k3, k4⟩ := trod_u8s hs he hce t1
    simp at hc hd
    subst hc hd
    exact ⟨c, d, l, rfl, ⟨hb2.1, by omega⟩, k1, k2, k3, k4⟩
end
end Go.Sx
namespace Go.Proofs.YtffedfdhhglmkaaGreat
open Go.Sx Go.RowKit
section
variable {H : Type} {enc : TypeId × Value → H} {w : World} {base : Nat} {spare : Nat → Bool} {held : Bool}
instance : Inhabited BR := ⟨⟨0, ⟨none, 0, 0⟩, []⟩⟩

theorem u8s_map (l : List Int) : u8s l = l.map (Value.int .u8) := rfl

set_option maxRecDepth 100000 in
theorem open_Key {r : Reach} {b0 : Nat} {v : Value} {d : DataW H} {ps : List MemPlace} (hval : Value.okWide Tryz.prog w r b0 ty_arr32_uint8 v) (hd : DataW.Trod enc Tryz.prog w base spare held ty_arr32_uint8 v d ps) : ∃ (x : Array Value) (k : List Int), v = .agg x ∧ RdKey w x k := by
  obtain ⟨l, rfl, h1, h2⟩ := open_bytes (n := 32) (e := ty_uint8) (by kernel_rfl) (by kernel_rfl) (by kernel_rfl) (by kernel_rfl) hval hd
  exact ⟨_, l, rfl, rfl, h1, h2⟩

set_option maxRecDepth 100000 in
theorem open_Blobs {fuel : Nat} {cs : List Value} {x : DataW H × List MemPlace} (h : DataW.trod enc Tryz.prog w base spare held fuel ty_sl_laws_Blob cs = some x) :
    ∃ (s : Sl) (bs : List BR), cs = [.slice s.a s.n s.c] ∧ BsR w s bs ∧ s.c ≤ maxLen ∧ ∀ b ∈ bs, b.d.c ≤ maxLen := by
  obtain ⟨s, bs, h1, h2, h3, h4⟩ := trod_sl (u := ty_laws_Blob) (z := 2) (cells := BR.cells) (ok := fun b => b.Ok w ∧ b.d.c ≤ maxLen) (by kernel_rfl) (by kernel_rfl) (by omega) (fun b _ => cells_len b) (fun fuel cs x h => by
    obtain ⟨c, d, l, h1, h2, h3, h4, h5, h6⟩ := trod_tagged (b := ty_uint8) (s := ty_sl_uint8) (e := ty_uint8) (by kernel_rfl) (by kernel_rfl) (by kernel_rfl) (by kernel_rfl) (by kernel_rfl) (by kernel_rfl) (by kernel_rfl) (by kernel_rfl) h
    exact ⟨⟨c, d, l⟩, h1, ⟨⟨h3, h4, h5⟩, h2.1, h2.2⟩, h6⟩) h
  exact ⟨s, bs, h1, ⟨h2, fun b hb => (h4 b hb).1⟩, h3, fun b hb => (h4 b hb).2⟩

set_option maxRecDepth 100000 in
theorem open_Store {r : Reach} {b0 : Nat} {v : Value} {d : DataW H} {ps : List MemPlace} (hval : Value.okWide Tryz.prog w r b0 ty_laws_Store v) (hd : DataW.Trod enc Tryz.prog w base spare held ty_laws_Store v d ps) : ∃ (x : Array Value) (B : List PB), v = .agg x ∧ RawStore w x B := by
  have hb : structB Tryz.prog ty_laws_Store [(ty_sl_laws_Blob, 0)] = true := by kernel_rfl
  obtain ⟨cs, rfl⟩ := okWide_structB hb hval
  obtain ⟨fuel, hf⟩ := hd
  obtain ⟨hl, hf⟩ := trod_fields hb hf
  obtain ⟨_, _, t0⟩ := hf 0 _ _ rfl
  have e3 : Tryz.prog.cellsOf ty_sl_laws_Blob = 1 := by kernel_rfl
  have e4 : Tryz.prog.cellsOf ty_laws_Store = 1 := by kernel_rfl
  rw [e3] at t0
  rw [e4] at hl
  have hl' : (Value.agg cs).cells.toList = cs.toList := rfl
  rw [hl'] at t0 hl
  rw [List.drop_zero, List.take_of_length_le (by omega)] at t0
  obtain ⟨s, bs, h1, h2, h3, h4⟩ := open_Blobs t0
  have hcs : cs = #[.slice s.a s.n s.c] := by rw [← Array.toArray_toList (xs := cs), h1]
  subst hcs
  exact ⟨_, bs.map BR.pb, rfl, s, bs, rfl, rfl, h2, h3, h4⟩
end
end Go.Proofs.YtffedfdhhglmkaaGreat
