/- Arguments opened at their cells: slices of anything, slices of bytes, stores. More kinds of values of which laws speak: raw blobs; keys compared. More kinds of values of which laws speak: slices of keys, slices of counts. Rules beside an own map. Printed in part (mp0.py). A blob is put into the program's store with its keys. Printed by a program of this claim's author (s2.py). LinkPath's plain law: a search in breadth. Is a key in a slice of keys (reference); a slice of keys turned round (library). LinkPath's plain law: the path. LinkPath: the program's map of predecessors, plain. LinkPath: what both sides answer, plain. The nodes of maps by their keys: the program's mapper and the reference's l08Node. More kinds of values of which laws speak: slices of entries. The program's walk over the nodes of a map. More kinds of values of which laws speak: bytes. -/
import Derived.ChangeSame
import Derived.WideKeyRuns
import Derived.ChangeMaps5
import Derived.Test.YtkifkdkjljcclaaPkLPS21
import Derived.Test.YtkifkdkjljcclaaPkLPS17
namespace Go.Sx
open Go.ChangeShapes Go.WideShapes Go.ChangeAt Go.RowKit Go.Deep

section
variable {H : Type} {enc : TypeId × Value → H} {P : Program} {w : World} {base : Nat} {spare : Nat → Bool} {held : Bool}

theorem trod_sl {α : Type} [Inhabited α] {t u z : Nat} {cells : α → List Value} {ok : α → Prop} (ht : P.underlying t = some (.slice u)) (hc : P.cellsOf u = z) (hz : 0 < z) (hlen : ∀ a, ok a → (cells a).length = z)
    (elem : ∀ (fuel : Nat) (cs : List Value) (x : DataW H × List MemPlace), DataW.trod enc P w base spare held fuel u cs = some x → ∃ a : α, cs = cells a ∧ ok a)
    {fuel : Nat} {cs : List Value} {x : DataW H × List MemPlace} (h : DataW.trod enc P w base spare held fuel t cs = some x) :
    ∃ (s : Sl) (xs : List α), cs = [.slice s.a s.n s.c] ∧ SlOf w s z cells xs ∧ s.c ≤ maxLen ∧ ∀ a ∈ xs, ok a := by
  rcases open_slice ht h with ⟨rfl, _⟩ | ⟨a', len, cap, m, k, D, Pl, rfl, _, hl, hm, hmm, _, hx⟩
  · exact ⟨⟨none, 0, 0⟩, [], rfl, SlOf.nil hz, Nat.zero_le _, by simp⟩
  · have hlm : len ≤ m := by rw [hmm]; split <;> omega
    obtain ⟨g, hg⟩ := choose_lt (α := α) (n := len) (p := fun i y => ok y ∧ ∀ j v, (cells y)[j]? = some v → w.cell? ((a'.add (i * z)).add j) = some v) (fun i hi => by
      obtain ⟨cs', h1, h2⟩ := hx i (by omega)
      rw [hc] at h1
      obtain ⟨y, rfl, hy⟩ := elem _ _ _ h2
      obtain ⟨_, hlen', hcell⟩ := World.cells?_some h1
      refine ⟨y, hy, fun j v hv => ?_⟩
      rw [hcell j (by have := (List.getElem?_eq_some_iff.1 hv).1; omega), hv])
    have hmem : ∀ y ∈ (List.range len).map g, ok y := by
      intro y hy
      simp only [List.mem_map, List.mem_range] at hy
      obtain ⟨i, hi, rfl⟩ := hy
      exact (hg i hi).1
    have hone : ∀ y ∈ (List.range len).map g, (cells y).length = z := fun y hy => hlen y (hmem y hy)
    have hfl : (((List.range len).map g).flatMap cells).length = len * z := by rw [flatMap_length hone]; simp
    refine ⟨⟨some a', len, cap⟩, (List.range len).map g, rfl, ⟨⟨hfl, fun j v hv => ⟨a', rfl, ?_⟩⟩, hone, hl, hz⟩, hm, hmem⟩
    have hj : j < len * z := by rw [← hfl]; exact (List.getElem?_eq_some_iff.1 hv).1
    have hi : j / z < len := (Nat.div_lt_iff_lt_mul hz).2 hj
    have hr : j % z < z := Nat.mod_lt _ hz
    obtain ⟨h1, h2⟩ := hg (j / z) hi
    have hr' : j % z < (cells (g (j / z))).length := by rw [hlen _ h1]; exact hr
    have e := flatMap_get (cs := cells) (i := j / z) (j := j % z) hone (by simp [hi]) (List.getElem?_eq_getElem hr')
    rw [Nat.div_add_mod', hv] at e
    have := h2 (j % z) _ (List.getElem?_eq_getElem hr')
    rwa [add_add, Nat.div_add_mod', ← e] at this

theorem trod_u8s {t e : Nat} (ht : P.underlying t = some (.slice e)) (he : P.underlying e = some (.int .u8)) (hc : P.cellsOf e = 1) {fuel : Nat} {cs : List Value} {x : DataW H × List MemPlace} (h : DataW.trod enc P w base spare held fuel t cs = some x) :
    ∃ (s : Sl) (l : List Int), cs = [.slice s.a s.n s.c] ∧ SlAt w s 1 (l.map (Value.int .u8)) ∧ (∀ b ∈ l, 0 ≤ b ∧ b < 256) ∧ s.n ≤ s.c ∧ s.c ≤ maxLen := by
  obtain ⟨s, xs, h1, h2, h3, h4⟩ := trod_sl (α := Int) (ok := fun b => 0 ≤ b ∧ b < 256) (cells := fun b => [Value.int .u8 b]) ht hc (by omega) (fun _ _ => rfl) (fun fuel cs x h => by
    obtain ⟨b, hb, _, hw⟩ := DataW.trod_int he h
    have hb2 := bounds_u8 hw
    exact ⟨b, hb, hb2.1, by omega⟩) h
  refine ⟨s, xs, h1, ?_, h4, h2.cap, h3⟩
  have := h2.sl
  rwa [show xs.flatMap (fun b => [Value.int .u8 b]) = xs.map (Value.int .u8) from (List.map_eq_flatMap ..).symm] at this

theorem okWide_struct {r : Reach} {b0 : Nat} {t : TypeId} {fs : Array Field} {v : Value} (ht : P.underlying t = some (.struct fs)) (h : Value.okWide P w r b0 t v) : ∃ cs, v = .agg cs := by
  simp only [Value.okWide, ht] at h
  obtain ⟨cs, h1, _⟩ := h
  exact ⟨cs, h1⟩
def structB (P : Program) (t : TypeId) (l : List (TypeId × Nat)) : Bool := match P.underlying t with
  | some (.struct fs) => (fs.toList.map fun f => (f.type, f.offset)) == l
  | _ => false
theorem structB_of {t : TypeId} {l : List (TypeId × Nat)} (h : structB P t l = true) : ∃ fs, P.underlying t = some (.struct fs) ∧ fs.toList.map (fun f => (f.type, f.offset)) = l := by
  unfold structB at h
  split at h
  · rename_i fs hu
    exact ⟨fs, hu, by simpa using h⟩
  · cases h
theorem okWide_structB {r : Reach} {b0 : Nat} {t : TypeId} {l : List (TypeId × Nat)} {v : Value} (ht : structB P t l = true) (h : Value.okWide P w r b0 t v) : ∃ cs, v = .agg cs := by
  obtain ⟨fs, hu, _⟩ := structB_of ht
  exact okWide_struct hu h
theorem trod_fields {t : TypeId} {l : List (TypeId × Nat)} {fuel : Nat} {cs : List Value} {x : DataW H × List MemPlace} (ht : structB P t l = true) (h : DataW.trod enc P w base spare held fuel t cs = some x) :
    cs.length = P.cellsOf t ∧ ∀ (i : Nat) ty off, l[i]? = some (ty, off) → ∃ n y, DataW.trod enc P w base spare held n ty ((cs.drop off).take (P.cellsOf ty)) = some y := by
  obtain ⟨fs, hu, hl⟩ := structB_of ht
  obtain ⟨xs, n, _, rfl, hlen, hxl, hf⟩ := DataW.trod_struct hu h
  refine ⟨hlen, fun i ty off hi => ?_⟩
  rw [← hl, List.getElem?_map] at hi
  cases hfi : fs.toList[i]? with
  | none => rw [hfi] at hi; cases hi
  | some f =>
    rw [hfi] at hi
    simp only [Option.map_some, Option.some.injEq, Prod.mk.injEq] at hi
    obtain ⟨rfl, rfl⟩ := hi
    have hfi' : fs[i]? = some f := by rw [← Array.getElem?_toList]; exact hfi
    have := hf i f hfi'
    have hlt : i < xs.length := by rw [hxl]; exact (Array.getElem?_eq_some_iff.1 hfi').1
    rw [List.getElem?_eq_getElem hlt] at this
    exact ⟨n, _, this⟩

theorem trod_tagged {t b s e : TypeId} {fuel : Nat} {cs : List Value} {x : DataW H × List MemPlace} (ht : structB P t [(b, 0), (s, 1)] = true) (hct : P.cellsOf t = 2) (hcb : P.cellsOf b = 1) (hcs : P.cellsOf s = 1)
    (hb : P.underlying b = some (.int .u8)) (hs : P.underlying s = some (.slice e)) (he : P.underlying e = some (.int .u8)) (hce : P.cellsOf e = 1) (h : DataW.trod enc P w base spare held fuel t cs = some x) :
    ∃ (c : Int) (d : Sl) (l : List Int), cs = [.int .u8 c, .slice d.a d.n d.c] ∧ (0 ≤ c ∧ c < 256) ∧ SlAt w d 1 (l.map (Value.int .u8)) ∧ (∀ b ∈ l, 0 ≤ b ∧ b < 256) ∧ d.n ≤ d.c ∧ d.c ≤ maxLen := by
  obtain ⟨hl, hf⟩ := trod_fields ht h
  obtain ⟨_, _, t0⟩ := hf 0 _ _ rfl
  obtain ⟨_, _, t1⟩ := hf 1 _ _ rfl
  rw [hcb] at t0
  rw [hcs] at t1
  rw [hct] at hl
  match cs, hl with
  | [v0, v1], _ =>
    simp at t0 t1
    obtain ⟨c, hc, _, hw⟩ := DataW.trod_int hb t0
    have hb2 := bounds_u8 hw
    obtain ⟨d, l, hd, k1, k2, k3, k4⟩ := trod_u8s hs he hce t1
    simp at hc hd
    subst hc hd
    exact ⟨c, d, l, rfl, ⟨hb2.1, by omega⟩, k1, k2, k3, k4⟩
end
end Go.Sx
namespace Go.Proofs.Ytkifkdkjljcclaa
open Go.Sx Go.RowKit
section
variable {H : Type} {enc : TypeId × Value → H} {w : World} {base : Nat} {spare : Nat → Bool} {held : Bool}
instance : Inhabited BR := ⟨⟨0, ⟨none, 0, 0⟩, []⟩⟩

set_option maxRecDepth 100000 in
theorem open_Blobs {fuel : Nat} {cs : List Value} {x : DataW H × List MemPlace} (h : DataW.trod enc Try.prog w base spare held fuel ty_sl_laws_Blob cs = some x) :
    ∃ (s : Sl) (bs : List BR), cs = [.slice s.a s.n s.c] ∧ BsR w s bs ∧ s.c ≤ maxLen ∧ ∀ b ∈ bs, b.d.c ≤ maxLen := by
  obtain ⟨s, bs, h1, h2, h3, h4⟩ := trod_sl (u := ty_laws_Blob) (z := 2) (cells := BR.cells) (ok := fun b => b.Ok w ∧ b.d.c ≤ maxLen) (by kernel_rfl) (by kernel_rfl) (by omega) (fun b _ => cells_len b) (fun fuel cs x h => by
    obtain ⟨c, d, l, h1, h2, h3, h4, h5, h6⟩ := trod_tagged (b := ty_uint8) (s := ty_sl_uint8) (e := ty_uint8) (by kernel_rfl) (by kernel_rfl) (by kernel_rfl) (by kernel_rfl) (by kernel_rfl) (by kernel_rfl) (by kernel_rfl) (by kernel_rfl) h
    exact ⟨⟨c, d, l⟩, h1, ⟨⟨h3, h4, h5⟩, h2.1, h2.2⟩, h6⟩) h
  exact ⟨s, bs, h1, ⟨h2, fun b hb => (h4 b hb).1⟩, h3, fun b hb => (h4 b hb).2⟩

set_option maxRecDepth 100000 in
theorem open_Store {r : Reach} {b0 : Nat} {v : Value} {d : DataW H} {ps : List MemPlace} (hval : Value.okWide Try.prog w r b0 ty_laws_Store v) (hd : DataW.Trod enc Try.prog w base spare held ty_laws_Store v d ps) : ∃ (x : Array Value) (B : List PB), v = .agg x ∧ RawStore w x B := by
  have hb : structB Try.prog ty_laws_Store [(ty_sl_laws_Blob, 0)] = true := by kernel_rfl
  obtain ⟨cs, rfl⟩ := okWide_structB hb hval
  obtain ⟨fuel, hf⟩ := hd
  obtain ⟨hl, hf⟩ := trod_fields hb hf
  obtain ⟨_, _, t0⟩ := hf 0 _ _ rfl
  have e3 : Try.prog.cellsOf ty_sl_laws_Blob = 1 := by kernel_rfl
  have e4 : Try.prog.cellsOf ty_laws_Store = 1 := by kernel_rfl
  rw [e3] at t0
  rw [e4] at hl
  have hl' : (Value.agg cs).cells.toList = cs.toList := rfl
  rw [hl'] at t0 hl
  rw [List.drop_zero, List.take_of_length_le (by omega)] at t0
  obtain ⟨s, bs, h1, h2, h3, h4⟩ := open_Blobs t0
  have hcs : cs = #[.slice s.a s.n s.c] := by rw [← Array.toArray_toList (xs := cs), h1]
  subst hcs
  exact ⟨_, bs.map BR.pb, rfl, s, bs, rfl, rfl, h2, h3, h4⟩
end
end Go.Proofs.Ytkifkdkjljcclaa

namespace Go.Sx
end Go.Sx
namespace Go.Proofs.Ytkifkdkjljcclaa
open Go.Sx Go.RowKit

def RawBlob (w : World) (r : Array Value) (B : PB) : Prop := ∃ b : BR, r = b.cells.toArray ∧ b.pb = B ∧ b.Ok w ∧ b.d.c ≤ maxLen
theorem RawBlob.rd {w : World} {r : Array Value} {B : PB} (h : RawBlob w r B) : RdBlob w r B := let ⟨b, h1, h2, h3, _⟩ := h; ⟨b, h1, h2, h3⟩
theorem RawBlob.sz {w : World} {r : Array Value} {B : PB} (h : RawBlob w r B) : r.size = 2 := by obtain ⟨b, rfl, _⟩ := h; rfl
theorem RawBlob.one {w : World} {r : Array Value} {B : PB} (h : RawBlob w r B) : ∀ v ∈ r.toList, oneC v = true := by obtain ⟨b, rfl, _⟩ := h; simpa using cells_one b
end Go.Proofs.Ytkifkdkjljcclaa

namespace Go.Proofs.Ytkifkdkjljcclaa
open Go.Sx Go.RowKit

def RdKeyS (w : World) (s : Sl) (ks : List (List Int)) : Prop := KsR w s ks
theorem RdKeyS.at {w w' : World} {ls : List Blk} {s : Sl} {ks : List (List Int)} (h : RdKeyS w s ks) (hA : At w w' ls) : RdKeyS w' s ks := KsR.at h hA
def OwnKeyS (s : Sl) (ks : List (List Int)) (L : List Blk) : Prop := OwnS ty_impl_Key 32 s (ks.flatMap u8s) L ∧ ∀ k ∈ ks, keyOk k
theorem OwnKeyS.rd {w0 w : World} {s : Sl} {ks : List (List Int)} {L ls : List Blk} (h : OwnKeyS s ks L) (hA : At w0 w (L ++ ls)) : RdKeyS w s ks := ownS_ks h.1 hA (List.sublist_append_left _ _) h.2
def RawKeyS (w : World) (s : Sl) (ks : List (List Int)) : Prop := KsR w s ks ∧ s.n ≤ s.c ∧ s.c ≤ maxLen
theorem RawKeyS.rd {w : World} {s : Sl} {ks : List (List Int)} (h : RawKeyS w s ks) : RdKeyS w s ks := h.1
theorem OwnKeyS.none : OwnKeyS ⟨none, 0, 0⟩ [] [] := ⟨OwnS.nil _ _, by simp⟩
def i64s (l : List Int) : List Value := l.map (Value.int .i64)
theorem i64s_len (l : List Int) : (i64s l).length = l.length := by simp [i64s]
theorem i64s_get {l : List Int} {i : Nat} (h : i < l.length) : (i64s l)[i]? = some (.int .i64 (l.getD i 0)) := by simp [i64s, List.getD, h]
def RdInt64S (w : World) (s : Sl) (l : List Int) : Prop := SlAt w s 1 (i64s l)
theorem RdInt64S.n {w : World} {s : Sl} {l : List Int} (h : RdInt64S w s l) : s.n = l.length := by have := SlAt.len h; rw [i64s_len] at this; omega
theorem RdInt64S.at {w w' : World} {ls : List Blk} {s : Sl} {l : List Int} (h : RdInt64S w s l) (hA : At w w' ls) : RdInt64S w' s l := SlAt.below h hA.below
theorem RdInt64S.get {w : World} {s : Sl} {l : List Int} (h : RdInt64S w s l) {i : Nat} (hi : i < l.length) : ∃ p, s.a = some p ∧ w.cell? (p.add i) = some (.int .i64 (l.getD i 0)) := SlAt.cell h i _ (i64s_get hi)
def OwnInt64S (s : Sl) (l : List Int) (L : List Blk) : Prop := OwnS ty_int64 1 s (i64s l) L
theorem OwnInt64S.rd {w0 w : World} {s : Sl} {l : List Int} {L ls : List Blk} (h : OwnInt64S s l L) (hA : At w0 w (L ++ ls)) : RdInt64S w s l := OwnS.sl h hA (List.sublist_append_left _ _)
theorem OwnInt64S.none : OwnInt64S ⟨none, 0, 0⟩ [] [] := OwnS.nil _ _
end Go.Proofs.Ytkifkdkjljcclaa

namespace Go.Sx
open Go.RowKit (Below)
variable {P : Program} {R : Value → World → Prop} {w0 w : World} {ls : List Blk}

theorem lt_of_get {h : Array Obj} {r : Nat} {o : Obj} (hM : h[r]? = some o) : r < h.size := by
  rcases Nat.lt_or_ge r h.size with h' | h'
  · exact h'
  · rw [Array.getElem?_eq_none h'] at hM; cases hM
theorem _root_.Go.RowKit.Below.keeps {w w' : World} {r : Nat} {o : Obj} (hb : Below w.heap.size w w') (hM : w.heap[r]? = some o) : w'.heap[r]? = some o := by rw [hb.block r (lt_of_get hM)]; exact hM

def arrK (k : List Int) : Value := .agg (k.map (Value.int .u8)).toArray
def MapIs (o : Obj) (m : List (List Int × Value)) : Prop := ∃ es clk, o = .map es clk ∧ es.toList.map (fun e => (e.key, e.val)) = m.map fun p => (arrK p.1, p.2)
theorem MapIs.no {o : Obj} {m : List (List Int × Value)} (h : MapIs o m) : ∀ c e f, o ≠ .cells c e f := by obtain ⟨es, clk, rfl, _⟩ := h; intro c e f hh; cases hh
theorem MapIs.nil (c : Nat) : MapIs (.map #[] c) [] := ⟨#[], c, rfl, rfl⟩

end Go.Sx

namespace Go.Proofs.Ytkifkdkjljcclaa
open Go.Sx Go.RowKit

def zero32 : List Int := List.replicate 32 0
end Go.Proofs.Ytkifkdkjljcclaa

namespace Go.Proofs.Ytkifkdkjljcclaa
open Go.Sx Go.RowKit

def blobAt (B : List PB) (k : List Int) : PB := B.getD (posK (keysOf B) k) ⟨0, []⟩
structure MetOk (B : List PB) (x : List Int) (s : List (List Int) × List Nat) : Prop where
  nodup : s.1.Nodup
  inB : ∀ k ∈ s.1, k ∈ keysOf B
  len : s.1.length = s.2.length
  first : s.1[0]? = some x
  par : ∀ j p, 0 < j → s.2[j]? = some p → p < j
end Go.Proofs.Ytkifkdkjljcclaa

namespace Go.Proofs.Ytkifkdkjljcclaa
open Go.Sx Go.RowKit

end Go.Proofs.Ytkifkdkjljcclaa

namespace Go.Proofs.Ytkifkdkjljcclaa
open Go.Sx Go.RowKit

end Go.Proofs.Ytkifkdkjljcclaa

namespace Go.Proofs.Ytkifkdkjljcclaa
open Go.Sx Go.RowKit

end Go.Proofs.Ytkifkdkjljcclaa

namespace Go.Proofs.Ytkifkdkjljcclaa
open Go.Sx Go.RowKit

theorem nodup_le {α : Type} [DecidableEq α] : ∀ {s t : List α}, s.Nodup → (∀ x ∈ s, x ∈ t) → s.length ≤ t.length
  | [], t, _, _ => Nat.zero_le _
  | x :: s, t, hn, hs => by
    rw [List.nodup_cons] at hn
    have hx : x ∈ t := hs x (by simp)
    have ih := nodup_le (s := s) (t := t.erase x) hn.2 fun y hy => (List.mem_erase_of_ne (fun e : y = x => hn.1 (by rw [← e]; exact hy))).2 (hs y (by simp [hy]))
    rw [List.length_erase_of_mem hx] at ih
    have : 0 < t.length := List.length_pos_of_mem hx
    rw [List.length_cons]
    omega

theorem MetOk.le {B : List PB} {x : List Int} {s : List (List Int) × List Nat} (h : MetOk B x s) : s.1.length ≤ B.length := by
  have := nodup_le h.nodup h.inB
  rwa [keysOf_len] at this
end Go.Proofs.Ytkifkdkjljcclaa

namespace Go.Proofs.Ytkifkdkjljcclaa
open Go.Sx Go.RowKit

def nmOf (d : List Int) : ByteArray := strOf (nodeName d)
def lowBad (lo : Option ByteArray) (nm : ByteArray) : Bool := match lo with
  | none => false
  | some s => Op.bytesLess nm.toList s.toList || nm.toList == s.toList
def highBad (hi : Option ByteArray) (nm : ByteArray) : Bool := match hi with
  | none => false
  | some s => !Op.bytesLess nm.toList s.toList
def nodeGood (b : PB) : Prop := b.tag = 5 ∧ nodeOk b.data
instance (b : PB) : Decidable (nodeGood b) := inferInstanceAs (Decidable (b.tag = 5 ∧ nodeOk b.data))
def nodeFits (b : PB) (many : Nat) (loose : Bool) (lo hi : Option ByteArray) : Prop := nodeGood b ∧ many < 64 ∧ (loose = true ∨ (lowBad lo (nmOf b.data) = false ∧ highBad hi (nmOf b.data) = false))
end Go.Proofs.Ytkifkdkjljcclaa

namespace Go.Proofs.Ytkifkdkjljcclaa
open Go.Sx Go.RowKit
open Go.ChangeShapes Go.WideShapes Go.ChangeAt Go.Deep

abbrev PE := ByteArray × ByteArray
def entC (l : PE) : List Value := [.string l.1, .string l.2]
abbrev EsR (w : World) (s : Sl) (es : List PE) : Prop := SlOf w s 2 entC es
theorem EsR.get {w : World} {s : Sl} {es : List PE} (h : EsR w s es) {i : Nat} (hi : i < es.length) : ∃ l p, es[i]? = some l ∧ l ∈ es ∧ s.a = some p ∧ ldOk w 2 (p.add (i * 2)) .agg (entC l).toArray ∧ ldOk w 1 ((p.add (i * 2)).add 0) .str l.1 ∧ ldOk w 1 ((p.add (i * 2)).add 1) .str l.2 := by
  have hk : es[i]? = some es[i] := List.getElem?_eq_getElem hi
  obtain ⟨p, hp, _⟩ := h.cell hk
  have ha := h.agg hk hp
  exact ⟨_, p, hk, List.getElem_mem hi, hp, ha, ha.2 0 _ rfl, ha.2 1 _ rfl⟩

def RdEntryS (w : World) (s : Sl) (es : List PE) : Prop := EsR w s es
theorem RdEntryS.at {w w' : World} {bl : List Blk} {s : Sl} {es : List PE} (h : RdEntryS w s es) (hA : At w w' bl) : RdEntryS w' s es := h.below hA.below
def RawEntryS (w : World) (s : Sl) (es : List PE) : Prop := EsR w s es ∧ s.c ≤ maxLen ∧ ∀ e ∈ es, e.1.size ≤ maxLen ∧ e.2.size ≤ maxLen
theorem RawEntryS.rd {w : World} {s : Sl} {es : List PE} (h : RawEntryS w s es) : RdEntryS w s es := h.1
end Go.Proofs.Ytkifkdkjljcclaa

namespace Go.Proofs.Ytkifkdkjljcclaa
open Go.Sx Go.RowKit

instance (b : PB) (many : Nat) (loose : Bool) (lo hi : Option ByteArray) : Decidable (nodeFits b many loose lo hi) := inferInstanceAs (Decidable (nodeGood b ∧ many < 64 ∧ (loose = true ∨ (lowBad lo (nmOf b.data) = false ∧ highBad hi (nmOf b.data) = false))))
end Go.Proofs.Ytkifkdkjljcclaa

namespace Go.Proofs.Ytkifkdkjljcclaa
open Go.Sx Go.RowKit

def RdByteS (w : World) (s : Sl) (l : List Int) : Prop := BSl w s l
theorem RdByteS.at {w w' : World} {ls : List Blk} {s : Sl} {l : List Int} (h : RdByteS w s l) (hA : At w w' ls) : RdByteS w' s l := BSl.at h hA
def OwnByteS (s : Sl) (l : List Int) (L : List Blk) : Prop := OwnS ty_uint8 1 s (u8s l) L ∧ bytesOk l
theorem OwnByteS.rd {w0 w : World} {s : Sl} {l : List Int} {L ls : List Blk} (h : OwnByteS s l L) (hA : At w0 w (L ++ ls)) : RdByteS w s l := ownS_bytes h.1 hA (List.sublist_append_left _ _) h.2
theorem OwnByteS.none : OwnByteS ⟨none, 0, 0⟩ [] [] := ⟨OwnS.nil _ _, by intro b hb; cases hb⟩
def RawByteS (w : World) (s : Sl) (l : List Int) : Prop := BSl w s l ∧ s.c ≤ maxLen
theorem RawByteS.rd {w : World} {s : Sl} {l : List Int} (h : RawByteS w s l) : RdByteS w s l := h.1
def sizeByteS (l : List Int) : Nat := l.length
def markByteS (k : Int) (l : List Int) : List Int := marks k l.length
theorem c_eqByteSV {w : World} {s t : Sl} {l : List Int} (h : RdByteS w s l) (h' : RdByteS w t l) (hz : sizeByteS l ≤ 1073741824) : Ret Try.prog n_laws_eqByteS [.slice s.a s.n s.c, .slice t.a t.n t.c] w [.bool] (fun x _ => x = true) := c_eqByteS h h' hz
theorem c_markByteSV {w0 w : World} {ls L : List Blk} {s : Sl} {l : List Int} (hA : At w0 w (L ++ ls)) (hO : OwnByteS s l L) (k : Int) (h0 : 0 ≤ k) (hmax : k + sizeByteS l ≤ 4611686018427387904) :
    Calls Try.prog n_laws_markByteS [.slice s.a s.n s.c, .int .i64 k].toArray w fun e w' => ∃ v, e = .returned v ∧ v = .int .i64 (k + sizeByteS l) ∧ ∃ L', At w0 w' (L' ++ ls) ∧ OwnByteS s (markByteS k l) L' :=
  (c_markByteS hA hO.1 k h0 hmax).mono fun _ _ ⟨v, h1, h2, L', h3, h4⟩ => ⟨v, h1, h2, L', h3, h4, marks_ok _ _⟩
theorem c_heldByteSV {w : World} {s : Sl} {l : List Int} (k : Int) (h : RdByteS w s (markByteS k l)) (h0 : 0 ≤ k) (hmax : k + sizeByteS l ≤ 4611686018427387904) : Ret Try.prog n_laws_heldByteS [.slice s.a s.n s.c, .int .i64 k] w [.int .i64] (fun x _ => x = k + sizeByteS l) := c_heldByteS (n := l.length) k h h0 hmax
end Go.Proofs.Ytkifkdkjljcclaa
