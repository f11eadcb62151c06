/- The links of a blob: what both sides answer. Rules beside an own map. Printed in part (mp0.py). LinkPath's plain law: a search in breadth. Is a key in a slice of keys (reference); a slice of keys turned round (library). LinkPath's plain law: the path. LinkPath: the program's map of predecessors, plain. LinkPath: what both sides answer, plain. The nodes of maps by their keys: the program's mapper and the reference's l08Node. The program's walk over the nodes of a map. More kinds of values of which laws speak: bytes. More kinds of values of which laws speak: slices of bytes in slices. The bytes of strings and of the nodes of maps (program). Printed in part by a program of this claim's author (d0.py). The number of bits; the left half of a tree. The tree over keys: its key, and the blobs of its nodes. The tree of a map: the program. -/
import Derived.WideKeyRuns
import Derived.Laws.IdiomStrings
import Derived.Test.YtkifkdkjljcclaaGreatPkLTor20
import Derived.Test.YtkifkdkjljcclaaGreatPkLTor17
import Derived.Test.YtkifkdkjljcclaaGreatPkLTor05
import Derived.Test.YtkifkdkjljcclaaGreatPkLTor18
namespace Go.Sx
theorem SlO.base {w0 w : World} {ls : List Blk} {e z : Nat} {s : Sl} {xs : List Value} (h : SlO w0 w ls e z s xs) : SlO w0 w [] e z s xs := by
  obtain ⟨L, hO, hA⟩ := h.split
  exact hO.slo (ls := []) (by simpa using hA.left)
end Go.Sx
namespace Go.Proofs.YtkifkdkjljcclaaGreat
open Go.Sx Go.RowKit

def notEmpty (k : List Int) : Bool := !decide (k = emptyKey)
def byte0 (d : List Int) : Nat := (d.getD 0 0).toNat
def links (b : PB) : List (List Int) :=
  if b.tag = 2 then (if b.data.length = 64 then keysN b.data 0 2 else [])
  else if b.tag = 5 then (if nodeOk b.data then [part32 b.data 0, part32 b.data 32].filter notEmpty else [])
  else if b.tag = 6 then (if b.data.length % 32 = 0 then keysN b.data 0 (b.data.length / 32) else [])
  else if b.tag = 7 then (if 1 ≤ b.data.length ∧ 1 + 32 * byte0 b.data ≤ b.data.length then keysN b.data 1 (byte0 b.data) else [])
  else []
theorem links_len (b : PB) : (links b).length ≤ b.data.length := by
  unfold links
  split
  · split
    · rw [keysN_len]; omega
    · simp
  split
  · split
    · rename_i hn
      have h1 := hn.1
      have := List.length_filter_le notEmpty [part32 b.data 0, part32 b.data 32]
      simp only [List.length_cons, List.length_nil] at this
      omega
    · simp
  split
  · split
    · rw [keysN_len]; omega
    · simp
  split
  · split
    · rw [keysN_len]; omega
    · simp
  · simp

theorem bsl_part {w : World} {s : Sl} {d : List Int} (hs : BSl w s d) (l k : Nat) (h1 : l ≤ k) (h2 : k ≤ d.length) : BSl w ⟨if s.c = l then s.a else s.a.map (·.add (l * 1)), k - l, s.c - l⟩ ((d.drop l).take (k - l)) :=
  ⟨bsl_sub hs l k h1 h2, fun b hb => hs.ok b (List.mem_of_mem_drop (List.mem_of_mem_take hb)), by have := hs.cap; have := hs.n; dsimp only; omega⟩

end Go.Proofs.YtkifkdkjljcclaaGreat

namespace Go.Sx
open Go.RowKit (Below)
variable {P : Program} {R : Value → World → Prop} {w0 w : World} {ls : List Blk}

theorem lt_of_get {h : Array Obj} {r : Nat} {o : Obj} (hM : h[r]? = some o) : r < h.size := by
  rcases Nat.lt_or_ge r h.size with h' | h'
  · exact h'
  · rw [Array.getElem?_eq_none h'] at hM; cases hM
theorem _root_.Go.RowKit.Below.keeps {w w' : World} {r : Nat} {o : Obj} (hb : Below w.heap.size w w') (hM : w.heap[r]? = some o) : w'.heap[r]? = some o := by rw [hb.block r (lt_of_get hM)]; exact hM

def arrK (k : List Int) : Value := .agg (k.map (Value.int .u8)).toArray
def MapIs (o : Obj) (m : List (List Int × Value)) : Prop := ∃ es clk, o = .map es clk ∧ es.toList.map (fun e => (e.key, e.val)) = m.map fun p => (arrK p.1, p.2)
theorem MapIs.no {o : Obj} {m : List (List Int × Value)} (h : MapIs o m) : ∀ c e f, o ≠ .cells c e f := by obtain ⟨es, clk, rfl, _⟩ := h; intro c e f hh; cases hh
theorem MapIs.nil (c : Nat) : MapIs (.map #[] c) [] := ⟨#[], c, rfl, rfl⟩

end Go.Sx

namespace Go.Proofs.YtkifkdkjljcclaaGreat
open Go.Sx Go.RowKit

def blobAt (B : List PB) (k : List Int) : PB := B.getD (posK (keysOf B) k) ⟨0, []⟩
structure MetOk (B : List PB) (x : List Int) (s : List (List Int) × List Nat) : Prop where
  nodup : s.1.Nodup
  inB : ∀ k ∈ s.1, k ∈ keysOf B
  len : s.1.length = s.2.length
  first : s.1[0]? = some x
  par : ∀ j p, 0 < j → s.2[j]? = some p → p < j
end Go.Proofs.YtkifkdkjljcclaaGreat

namespace Go.Proofs.YtkifkdkjljcclaaGreat
open Go.Sx Go.RowKit

end Go.Proofs.YtkifkdkjljcclaaGreat

namespace Go.Proofs.YtkifkdkjljcclaaGreat
open Go.Sx Go.RowKit

end Go.Proofs.YtkifkdkjljcclaaGreat

namespace Go.Proofs.YtkifkdkjljcclaaGreat
open Go.Sx Go.RowKit

end Go.Proofs.YtkifkdkjljcclaaGreat

namespace Go.Proofs.YtkifkdkjljcclaaGreat
open Go.Sx Go.RowKit

theorem nodup_le {α : Type} [DecidableEq α] : ∀ {s t : List α}, s.Nodup → (∀ x ∈ s, x ∈ t) → s.length ≤ t.length
  | [], t, _, _ => Nat.zero_le _
  | x :: s, t, hn, hs => by
    rw [List.nodup_cons] at hn
    have hx : x ∈ t := hs x (by simp)
    have ih := nodup_le (s := s) (t := t.erase x) hn.2 fun y hy => (List.mem_erase_of_ne (fun e : y = x => hn.1 (by rw [← e]; exact hy))).2 (hs y (by simp [hy]))
    rw [List.length_erase_of_mem hx] at ih
    have : 0 < t.length := List.length_pos_of_mem hx
    rw [List.length_cons]
    omega

theorem MetOk.le {B : List PB} {x : List Int} {s : List (List Int) × List Nat} (h : MetOk B x s) : s.1.length ≤ B.length := by
  have := nodup_le h.nodup h.inB
  rwa [keysOf_len] at this
end Go.Proofs.YtkifkdkjljcclaaGreat

namespace Go.Proofs.YtkifkdkjljcclaaGreat
open Go.Sx Go.RowKit

def nmOf (d : List Int) : ByteArray := strOf (nodeName d)
def lowBad (lo : Option ByteArray) (nm : ByteArray) : Bool := match lo with
  | none => false
  | some s => Op.bytesLess nm.toList s.toList || nm.toList == s.toList
def highBad (hi : Option ByteArray) (nm : ByteArray) : Bool := match hi with
  | none => false
  | some s => !Op.bytesLess nm.toList s.toList
def nodeGood (b : PB) : Prop := b.tag = 5 ∧ nodeOk b.data
instance (b : PB) : Decidable (nodeGood b) := inferInstanceAs (Decidable (b.tag = 5 ∧ nodeOk b.data))
def nodeFits (b : PB) (many : Nat) (loose : Bool) (lo hi : Option ByteArray) : Prop := nodeGood b ∧ many < 64 ∧ (loose = true ∨ (lowBad lo (nmOf b.data) = false ∧ highBad hi (nmOf b.data) = false))
end Go.Proofs.YtkifkdkjljcclaaGreat

namespace Go.Proofs.YtkifkdkjljcclaaGreat
open Go.Sx Go.RowKit

instance (b : PB) (many : Nat) (loose : Bool) (lo hi : Option ByteArray) : Decidable (nodeFits b many loose lo hi) := inferInstanceAs (Decidable (nodeGood b ∧ many < 64 ∧ (loose = true ∨ (lowBad lo (nmOf b.data) = false ∧ highBad hi (nmOf b.data) = false))))
end Go.Proofs.YtkifkdkjljcclaaGreat

namespace Go.Proofs.YtkifkdkjljcclaaGreat
open Go.Sx Go.RowKit

def RdByteS (w : World) (s : Sl) (l : List Int) : Prop := BSl w s l
theorem RdByteS.at {w w' : World} {ls : List Blk} {s : Sl} {l : List Int} (h : RdByteS w s l) (hA : At w w' ls) : RdByteS w' s l := BSl.at h hA
def OwnByteS (s : Sl) (l : List Int) (L : List Blk) : Prop := OwnS ty_uint8 1 s (u8s l) L ∧ bytesOk l
theorem OwnByteS.rd {w0 w : World} {s : Sl} {l : List Int} {L ls : List Blk} (h : OwnByteS s l L) (hA : At w0 w (L ++ ls)) : RdByteS w s l := ownS_bytes h.1 hA (List.sublist_append_left _ _) h.2
theorem OwnByteS.none : OwnByteS ⟨none, 0, 0⟩ [] [] := ⟨OwnS.nil _ _, by intro b hb; cases hb⟩
def RawByteS (w : World) (s : Sl) (l : List Int) : Prop := BSl w s l ∧ s.c ≤ maxLen
theorem RawByteS.rd {w : World} {s : Sl} {l : List Int} (h : RawByteS w s l) : RdByteS w s l := h.1
end Go.Proofs.YtkifkdkjljcclaaGreat

namespace Go.Proofs.YtkifkdkjljcclaaGreat
open Go.Sx Go.RowKit
open Go.ChangeShapes Go.WideShapes Go.ChangeAt Go.Deep

structure SR where
  d : Sl
  data : List Int
instance : Inhabited SR := ⟨⟨⟨none, 0, 0⟩, []⟩⟩
def SR.cells (r : SR) : List Value := [.slice r.d.a r.d.n r.d.c]
theorem scells_len (r : SR) : r.cells.length = 1 := rfl
structure SsR (w : World) (s : Sl) (rs : List SR) : Prop where
  of : SlOf w s 1 SR.cells rs
  ok : ∀ r ∈ rs, BSl w r.d r.data
theorem SsR.at {w w' : World} {ls : List Blk} {s : Sl} {rs : List SR} (h : SsR w s rs) (hA : At w w' ls) : SsR w' s rs := ⟨h.of.below hA.below, fun r hr => (h.ok r hr).at hA⟩
theorem SsR.n {w : World} {s : Sl} {rs : List SR} (h : SsR w s rs) : s.n = rs.length := h.of.n
theorem SsR.get {w : World} {s : Sl} {rs : List SR} (h : SsR w s rs) {i : Nat} (hi : i < rs.length) : ∃ r p, rs[i]? = some r ∧ r ∈ rs ∧ s.a = some p ∧ BSl w r.d r.data ∧ ldOk w 1 (p.add (i * 1)) .slice r.d := by
  have hk : rs[i]? = some rs[i] := List.getElem?_eq_getElem hi
  obtain ⟨p, hp, _⟩ := h.of.cell hk
  refine ⟨_, p, hk, List.getElem_mem hi, hp, h.ok _ (List.getElem_mem hi), ?_⟩
  have := h.of.fld hk hp (n := 1) 0 (sh := .slice) (y := rs[i].d) rfl (by simp [Sh.emb])
  rwa [Nat.add_zero] at this

inductive OwnSD : List SR → List Blk → Prop where
  | nil : OwnSD [] []
  | cons {b : SR} {r : List SR} {L1 L2 : List Blk} : OwnS ty_uint8 1 b.d (u8s b.data) L1 → OwnSD r L2 → OwnSD (b :: r) (L1 ++ L2)
theorem OwnSD.append {r t : List SR} {L M : List Blk} (h : OwnSD r L) (k : OwnSD t M) : OwnSD (r ++ t) (L ++ M) := by
  induction h with
  | nil => exact k
  | cons h1 _ ih => rw [List.append_assoc]; exact .cons h1 ih
theorem OwnSD.snoc {r : List SR} {b : SR} {L M : List Blk} (h : OwnSD r L) (k : OwnS ty_uint8 1 b.d (u8s b.data) M) : OwnSD (r ++ [b]) (L ++ M) := by
  have := h.append (OwnSD.cons k .nil)
  simpa using this
theorem OwnSD.ok {w0 w : World} {ls L : List Blk} {rs : List SR} (h : OwnSD rs L) (hA : At w0 w ls) (hs : L.Sublist ls) (hb : ∀ x ∈ rs.map SR.data, bytesOk x) : ∀ r ∈ rs, BSl w r.d r.data := by
  induction h with
  | nil => simp
  | @cons b r L1 L2 h1 h2 ih =>
    intro x hx
    cases hx with
    | head => exact ownS_bytes h1 hA ((List.sublist_append_left _ _).trans hs) (hb b.data (by simp))
    | tail _ hx => exact ih ((List.sublist_append_right _ _).trans hs) (fun b hx => hb b (by simp only [List.map_cons, List.mem_cons]; exact .inr hx)) x hx
def OwnSs (s : Sl) (rs : List SR) (L : List Blk) : Prop := ∃ Lb Ld, L = Lb ++ Ld ∧ OwnS ty_sl_uint8 1 s (rs.flatMap SR.cells) Lb ∧ OwnSD rs Ld
theorem OwnSs.rd {w0 w : World} {ls L : List Blk} {s : Sl} {rs : List SR} (h : OwnSs s rs L) (hA : At w0 w (L ++ ls)) (hb : ∀ x ∈ rs.map SR.data, bytesOk x) : SsR w s rs := by
  obtain ⟨Lb, Ld, rfl, h1, h2⟩ := h
  rw [List.append_assoc] at hA
  exact ⟨h1.of hA (List.sublist_append_left _ _) (fun b _ => scells_len b) (by omega), h2.ok hA ((List.sublist_append_left _ _).trans (List.sublist_append_right _ _)) hb⟩
def RdByteSS (w : World) (s : Sl) (X : List (List Int)) : Prop := ∃ rs, rs.map SR.data = X ∧ SsR w s rs
theorem RdByteSS.at {w w' : World} {ls : List Blk} {s : Sl} {X : List (List Int)} (h : RdByteSS w s X) (hA : At w w' ls) : RdByteSS w' s X := let ⟨rs, h1, h2⟩ := h; ⟨rs, h1, h2.at hA⟩
def OwnByteSS (s : Sl) (X : List (List Int)) (L : List Blk) : Prop := ∃ rs, rs.map SR.data = X ∧ OwnSs s rs L ∧ ∀ x ∈ X, bytesOk x
theorem OwnByteSS.rd {w0 w : World} {s : Sl} {X : List (List Int)} {L ls : List Blk} (h : OwnByteSS s X L) (hA : At w0 w (L ++ ls)) : RdByteSS w s X := let ⟨rs, h1, h2, h3⟩ := h; ⟨rs, h1, h2.rd hA (h1 ▸ h3)⟩
theorem OwnByteSS.none : OwnByteSS ⟨none, 0, 0⟩ [] [] := ⟨[], rfl, ⟨[], [], rfl, OwnS.nil _ _, .nil⟩, by simp⟩
def RawByteSS (w : World) (s : Sl) (X : List (List Int)) : Prop := ∃ rs, rs.map SR.data = X ∧ SsR w s rs ∧ s.c ≤ maxLen ∧ ∀ r ∈ rs, r.d.c ≤ maxLen
theorem RawByteSS.rd {w : World} {s : Sl} {X : List (List Int)} (h : RawByteSS w s X) : RdByteSS w s X := let ⟨rs, h1, h2, _⟩ := h; ⟨rs, h1, h2⟩
def sumL (X : List (List Int)) : Nat := (X.map List.length).sum
def sizeByteSS (X : List (List Int)) : Nat := X.length + sumL X
theorem smap_get {rs : List SR} {X : List (List Int)} (h : rs.map SR.data = X) {i : Nat} {r : SR} (hr : rs[i]? = some r) : X[i]? = some r.data := by rw [← h, List.getElem?_map, hr]; rfl

end Go.Proofs.YtkifkdkjljcclaaGreat

namespace Go.Proofs.YtkifkdkjljcclaaGreat
open Go.Sx Go.RowKit

def strL (s : ByteArray) : List Int := s.data.toList.map fun b => (b.toNat : Int)
theorem strL_len (s : ByteArray) : (strL s).length = s.size := by simp [strL]
theorem strL_ok (s : ByteArray) : bytesOk (strL s) := fun x hx => by
  obtain ⟨b, _, rfl⟩ := List.mem_map.1 hx
  have := b.toNat_lt
  omega
theorem r_cvB {P : Program} {R : Value → World → Prop} {w : World} {src dst e : TypeId} {s : ByteArray} (hs : P.underlying src = some .string) (hd : P.underlying dst = some (.slice e)) (he : P.underlying e = some (.int .u8)) {k : Sl → World → Prop}
    (h : ∀ y w', Below w.heap.size w w' → SlAt w' y 1 (u8s (strL s)) → y.n = s.size → k y w') : ((real P R).sem (convert src dst (.string s)) .slice k : World → Prop) w := by
  refine ⟨⟨some ⟨w.heap.size, 0, none⟩, s.size, grownCap w s.size 0 e⟩, _, run_bytes_of_string w src dst e s hs hd he, h _ _ ((drew_below w).trans ((below_alloc w.drew _).mono (Nat.le_refl _))) ⟨by simp [strL_len], fun j v hv => ⟨_, rfl, ?_⟩⟩ rfl⟩
  rw [add_lit, Nat.zero_add]
  have hj : j < s.data.size := by
    have := (List.getElem?_eq_some_iff.1 hv).1
    rw [u8s_len, strL_len] at this
    exact this
  have h1 := bytesRow_at s (grownCap w s.size 0 e) j hj
  have h2 : (w.drew.alloc (.cells (bytesRow s (grownCap w s.size 0 e)) e ((bytesRow s (grownCap w s.size 0 e)).size, (bytesRow s (grownCap w s.size 0 e)).size + 1))).cell? ⟨w.drew.heap.size, j, none⟩ = _ := World.cell?_alloc_mark _ _ _ _ _
  rw [h1] at h2
  refine h2.trans ?_
  rw [← hv]
  unfold u8s strL
  rw [List.map_map, List.getElem?_map, List.getElem?_eq_getElem (by simpa using hj)]
  simp
structure ND where
  l : List Int
  r : List Int
  e : PE
structure ND.ok (n : ND) : Prop where
  l : keyOk n.l
  r : keyOk n.r
  name : n.e.1.size ≤ 24
  value : n.e.2.size ≤ 64
def ndC (n : ND) : List Value := u8s n.l ++ (u8s n.r ++ entC n.e)
def ndB (n : ND) : List Int := n.l ++ (n.r ++ ([(n.e.1.size : Int)] ++ (strL n.e.1 ++ strL n.e.2)))
theorem ndC_len {n : ND} (h : n.ok) : (ndC n).length = 66 := by simp [ndC, h.l.1, h.r.1, entC]
theorem ndC_one (n : ND) : ∀ v ∈ ndC n, oneC v = true := by
  intro v hv
  simp only [ndC, List.mem_append] at hv
  rcases hv with h | h | h
  · exact u8s_one v h
  · exact u8s_one v h
  · exact entC_one _ v h
theorem ndB_len {n : ND} (h : n.ok) : (ndB n).length = 65 + n.e.1.size + n.e.2.size := by simp only [ndB, List.length_append, h.l.1, h.r.1, strL_len, List.length_cons, List.length_nil]; omega
theorem ndB_ok {n : ND} (h : n.ok) : bytesOk (ndB n) := by
  have hn := h.name
  refine h.l.2.append (h.r.2.append (bytesOk.append (fun b hb => ?_) ((strL_ok _).append (strL_ok _))))
  rw [List.mem_singleton.1 hb]
  omega
theorem ndC_name {n : ND} (h : n.ok) : (ndC n)[64]? = some (.string n.e.1) := by
  have e : (u8s n.l).length = 32 := by rw [u8s_len]; exact h.l.1
  have e2 : (u8s n.r).length = 32 := by rw [u8s_len]; exact h.r.1
  unfold ndC
  rw [List.getElem?_append_right (by omega), List.getElem?_append_right (by omega), e, e2]
  rfl
theorem ndC_value {n : ND} (h : n.ok) : (ndC n)[65]? = some (.string n.e.2) := by
  have e : (u8s n.l).length = 32 := by rw [u8s_len]; exact h.l.1
  have e2 : (u8s n.r).length = 32 := by rw [u8s_len]; exact h.r.1
  unfold ndC
  rw [List.getElem?_append_right (by omega), List.getElem?_append_right (by omega), e, e2]
  rfl

end Go.Proofs.YtkifkdkjljcclaaGreat

namespace Go.Proofs.YtkifkdkjljcclaaGreat
open Go.Sx Go.RowKit

def half (n : Nat) : Nat := 2 ^ Nat.log2 (n - 1)
theorem half_lt {n : Nat} (h : 2 ≤ n) : half n < n ∧ 1 ≤ half n := by
  have := Nat.log2_self_le (n := n - 1) (by omega)
  have := Nat.two_pow_pos (Nat.log2 (n - 1))
  unfold half
  omega

theorem c_l03Half (n : Nat) (h : 2 ≤ n) (hmax : n ≤ 1073741824) : RetP Tryz.prog n_spec_l03Half [.int .i64 (n : Int)] [.int .i64] (half n : Int) := fun w => spec_l03Half_calls n (by
  unfold spec_l03Half
  refine r_loop (σ := Int) (fun i w' => w' = w ∧ ∃ j : Nat, i = ((2 ^ j : Nat) : Int) ∧ 2 ^ j < n) (fun i _ => (n - i).toNat) 1 rfl ⟨rfl, 0, rfl, by omega⟩ ?_
  rintro i w1 ⟨rfl, j, rfl, hj⟩
  refine r_any fun _ => ?_
  have hp := Nat.two_pow_pos j
  have e1 : IntKind.wrap .i64 (2 * ((2 ^ j : Nat) : Int)) = ((2 ^ (j + 1) : Nat) : Int) := by rw [w64 (by omega) (by omega), Nat.pow_succ]; omega
  rw [e1]
  refine r_if (((2 ^ (j + 1) : Nat) : Int) < (n : Int)) rfl (fun hlt => ?_) (fun hge => ?_)
  · refine ⟨((2 ^ (j + 1) : Nat) : Int), rfl, ⟨rfl, j + 1, rfl, by omega⟩, ?_⟩
    have : 2 ^ (j + 1) = 2 ^ j * 2 := Nat.pow_succ ..
    omega
  · have : Nat.log2 (n - 1) = j := (Nat.log2_eq_iff (by omega)).2 ⟨by omega, by omega⟩
    refine r_retP ?_
    unfold half
    rw [this]
    rfl)

end Go.Proofs.YtkifkdkjljcclaaGreat

namespace Go.Proofs.YtkifkdkjljcclaaGreat
open Go.Sx Go.RowKit

def keyF : Nat → List (List Int) → List Int
  | 0, _ => zero32
  | f + 1, ks => if ks.length = 0 then hashL 3 [] else if ks.length = 1 then ks.headD zero32 else hashL 2 (keyF f (ks.take (half ks.length)) ++ keyF f (ks.drop (half ks.length)))
theorem keyF_succ (f : Nat) (ks : List (List Int)) : keyF (f + 1) ks = if ks.length = 0 then hashL 3 [] else if ks.length = 1 then ks.headD zero32 else hashL 2 (keyF f (ks.take (half ks.length)) ++ keyF f (ks.drop (half ks.length))) := rfl
theorem keyF_ok : ∀ (f : Nat) (ks : List (List Int)), (∀ k ∈ ks, keyOk k) → keyOk (keyF f ks)
  | 0, _, _ => zero32_ok
  | f + 1, ks, h => by
    rw [keyF_succ]
    split
    · exact ⟨hashL_len _ _, hashL_ok _ _⟩
    split
    · cases ks with
      | nil => exact zero32_ok
      | cons k r => exact h k (by simp)
    · exact ⟨hashL_len _ _, hashL_ok _ _⟩
def nodesF : Nat → List (List Int) → List PB
  | 0, _ => []
  | f + 1, ks => if ks.length < 2 then [] else nodesF f (ks.take (half ks.length)) ++ nodesF f (ks.drop (half ks.length)) ++ [⟨2, keyF f (ks.take (half ks.length)) ++ keyF f (ks.drop (half ks.length))⟩]
theorem nodesF_succ (f : Nat) (ks : List (List Int)) : nodesF (f + 1) ks = if ks.length < 2 then [] else nodesF f (ks.take (half ks.length)) ++ nodesF f (ks.drop (half ks.length)) ++ [⟨2, keyF f (ks.take (half ks.length)) ++ keyF f (ks.drop (half ks.length))⟩] := rfl
theorem nodesF_ok : ∀ (f : Nat) (ks : List (List Int)), (∀ k ∈ ks, keyOk k) → ∀ b ∈ nodesF f ks, b.tag = 2 ∧ b.data.length = 64 ∧ bytesOk b.data
  | 0, _, _ => by simp [nodesF]
  | f + 1, ks, h => by
    rw [nodesF_succ]
    split
    · simp
    · intro b hb
      have ht : ∀ k ∈ ks.take (half ks.length), keyOk k := fun k hk => h k (List.mem_of_mem_take hk)
      have hd : ∀ k ∈ ks.drop (half ks.length), keyOk k := fun k hk => h k (List.mem_of_mem_drop hk)
      rcases List.mem_append.1 hb with hb | hb
      · rcases List.mem_append.1 hb with hb | hb
        · exact nodesF_ok f _ ht b hb
        · exact nodesF_ok f _ hd b hb
      · rw [List.mem_singleton.1 hb]
        have k1 := keyF_ok f _ ht
        have k2 := keyF_ok f _ hd
        refine ⟨rfl, ?_, ?_⟩
        · dsimp only; rw [List.length_append, k1.1, k2.1]
        · exact k1.2.append k2.2

theorem KsR.sub {w : World} {s : Sl} {ks : List (List Int)} (h : KsR w s ks) (l k : Nat) (h1 : l ≤ k) (h2 : k ≤ s.n) : KsR w ⟨if s.c = l then s.a else s.a.map (·.add (l * 32)), k - l, s.c - l⟩ ((ks.drop l).take (k - l)) := ⟨h.of.sub l k h1 h2, fun x hx => h.ok x (List.mem_of_mem_drop (List.mem_of_mem_take hx))⟩

end Go.Proofs.YtkifkdkjljcclaaGreat

namespace Go.Proofs.YtkifkdkjljcclaaGreat
open Go.Sx Go.RowKit

def prio (e : PE) : List Int := hashL 4 (strL e.1)
theorem prio_ok (e : PE) : keyOk (prio e) := ⟨hashL_len _ _, hashL_ok _ _⟩
def topAt (ps : List (List Int)) : Nat → Nat
  | 0 => 0
  | j + 1 => if cmpL (ps.getD j []) (ps.getD (topAt ps j) []) > 0 then j else topAt ps j
theorem topAt_succ (ps : List (List Int)) (j : Nat) : topAt ps (j + 1) = if cmpL (ps.getD j []) (ps.getD (topAt ps j) []) > 0 then j else topAt ps j := rfl
theorem topAt_le (ps : List (List Int)) : ∀ j : Nat, topAt ps (j + 1) ≤ j
  | 0 => by rw [topAt_succ]; split <;> simp [topAt]
  | j + 1 => by
    rw [topAt_succ]
    have := topAt_le ps j
    split <;> omega
inductive Tr where
  | nil
  | node (n : ND) (l r : Tr)
def trKey : Tr → List Int
  | .nil => emptyKey
  | .node n _ _ => hashL 5 (ndB n)
theorem trKey_ok : ∀ T : Tr, keyOk (trKey T)
  | .nil => emptyKey_ok
  | .node _ _ _ => ⟨hashL_len _ _, hashL_ok _ _⟩
def trNodes : Tr → List ND
  | .nil => []
  | .node n l r => [n] ++ (trNodes l ++ trNodes r)
def topE (es : List PE) : Nat := topAt (es.map prio) es.length
def entE (es : List PE) (i : Nat) : PE := es.getD i (⟨#[]⟩, ⟨#[]⟩)
def treeF : Nat → List PE → Tr
  | 0, _ => .nil
  | f + 1, es => if es.length = 0 then .nil else .node ⟨trKey (treeF f (es.take (topE es))), trKey (treeF f (es.drop (topE es + 1))), entE es (topE es)⟩ (treeF f (es.take (topE es))) (treeF f (es.drop (topE es + 1)))
theorem treeF_succ (f : Nat) (es : List PE) : treeF (f + 1) es = if es.length = 0 then .nil else .node ⟨trKey (treeF f (es.take (topE es))), trKey (treeF f (es.drop (topE es + 1))), entE es (topE es)⟩ (treeF f (es.take (topE es))) (treeF f (es.drop (topE es + 1))) := rfl
theorem topE_lt {es : List PE} (h : es.length ≠ 0) : topE es < es.length := by
  unfold topE
  obtain ⟨n, hn⟩ : ∃ n, es.length = n + 1 := ⟨es.length - 1, by omega⟩
  rw [hn]
  have := topAt_le (es.map prio) n
  omega
def entsOk (es : List PE) : Prop := ∀ e ∈ es, e.1.size ≤ 24 ∧ e.2.size ≤ 64
theorem entE_mem {es : List PE} {i : Nat} (h : i < es.length) : entE es i ∈ es := by
  unfold entE
  simp only [List.getD, List.getElem?_eq_getElem h, Option.getD_some]
  exact List.getElem_mem _
theorem treeF_nodes : ∀ (f : Nat) {es : List PE}, entsOk es → ∀ n ∈ trNodes (treeF f es), n.ok
  | 0, _, _ => by simp [treeF, trNodes]
  | f + 1, es, h => by
    rw [treeF_succ]
    split
    · simp [trNodes]
    · rename_i h0
      have ht := topE_lt h0
      have he := h _ (entE_mem ht)
      intro n hn
      unfold trNodes at hn
      rcases List.mem_append.1 hn with hn | hn
      · rw [List.mem_singleton.1 hn]
        exact ⟨trKey_ok _, trKey_ok _, he.1, he.2⟩
      · rcases List.mem_append.1 hn with hn | hn
        · exact treeF_nodes f (fun e hx => h e (List.mem_of_mem_take hx)) n hn
        · exact treeF_nodes f (fun e hx => h e (List.mem_of_mem_drop hx)) n hn
theorem treeF_len : ∀ (f : Nat) (es : List PE), (trNodes (treeF f es)).length ≤ es.length
  | 0, _ => by simp [treeF, trNodes]
  | f + 1, es => by
    rw [treeF_succ]
    split
    · simp [trNodes]
    · rename_i h0
      have ht := topE_lt h0
      have i1 := treeF_len f (es.take (topE es))
      have i2 := treeF_len f (es.drop (topE es + 1))
      rw [List.length_take] at i1
      rw [List.length_drop] at i2
      unfold trNodes
      simp only [List.length_append, List.length_cons, List.length_nil]
      omega

theorem T_sl_ND : SlT Tryz.prog ty_sl_impl_MapNode ty_impl_MapNode 66 96 := slT_of (by kernel_rfl)

theorem ldOk_fld {w : World} {a : Addr} {xs : Array Value} {n : Nat} (h : ldOk w n a .agg xs) (i : Nat) {sh : Sh} {x : sh.T} (hx : xs[i]? = some (sh.emb x)) (hs : ∀ ds, sh.emb x ≠ .agg ds) {k : Nat} : ldOk w k (a.add i) sh x := by
  have hc := h.2 i _ hx
  cases sh
  case agg => exact (hs x rfl).elim
  all_goals exact hc
def trC (n : ND) (pl pr : Option Addr) : Array Value := (ndC n ++ [Value.pointer pl, Value.pointer pr]).toArray
theorem trC_size {n : ND} (h : n.ok) (pl pr : Option Addr) : (trC n pl pr).size = 68 := by simp [trC, ndC_len h]
inductive RdTr (w : World) : Option Addr → Tr → Prop where
  | nil : RdTr w none .nil
  | node {a : Addr} {n : ND} {l r : Tr} {pl pr : Option Addr} : n.ok → ldOk w 68 a .agg (trC n pl pr) → RdTr w pl l → RdTr w pr r → RdTr w (some a) (.node n l r)
theorem RdTr.bel {w w' : World} {o : Option Addr} {T : Tr} (h : RdTr w o T) (hb : Below w.heap.size w w') : RdTr w' o T := by
  induction h with
  | nil => exact .nil
  | node hn hl _ _ i1 i2 => exact .node hn (ldOk_below hb hl) i1 i2
theorem RdTr.at {w w' : World} {ls : List Blk} {o : Option Addr} {T : Tr} (h : RdTr w o T) (hA : At w w' ls) : RdTr w' o T := h.bel hA.below
inductive OwnTr : Option Addr → Tr → List Blk → Prop where
  | nil : OwnTr none .nil []
  | node {b : Nat} {n : ND} {l r : Tr} {pl pr : Option Addr} {Ll Lr : List Blk} : n.ok → OwnTr pl l Ll → OwnTr pr r Lr → OwnTr (some ⟨b, 0, none⟩) (.node n l r) ((b, trC n pl pr, ty_impl_tree) :: (Ll ++ Lr))
theorem OwnTr.rd {w0 w : World} {o : Option Addr} {T : Tr} {L : List Blk} (h : OwnTr o T L) : ∀ {ls : List Blk}, At w0 w ls → L.Sublist ls → RdTr w o T := by
  induction h with
  | nil => exact fun _ _ => .nil
  | @node b n l r pl pr Ll Lr hn _ _ i1 i2 =>
    intro ls hA hs
    have hA1 : At w0 w ((b, trC n pl pr, ty_impl_tree) :: (Ll ++ Lr)) := hA.take _ hs
    exact .node hn (ldOk_blk hA1 0 rfl (trC_size hn _ _)) (i1 hA1.tail (List.sublist_append_left _ _)) (i2 hA1.tail (List.sublist_append_right _ _))

theorem ndCs_one (ns : List ND) : ∀ v ∈ ns.flatMap ndC, oneC v = true := fun v hv => by
  obtain ⟨n, _, hn⟩ := List.mem_flatMap.1 hv
  exact ndC_one n v hn

theorem run_mkND {l r : List Int} (hl : keyOk l) (hr : keyOk r) (e : PE) (w : World) : (Instr.build ty_impl_MapNode #[(0, (.agg (u8s l).toArray)), (1, (.agg (u8s r).toArray)), (2, (.agg (entC e).toArray))]).run Tryz.prog w = .ok (.agg (ndC ⟨l, r, e⟩).toArray) w := by
  have h := run_mkNode (l := u8s l) (r := u8s r) (by rw [u8s_len]; exact hl.1) (by rw [u8s_len]; exact hr.1) e.1 e.2 w
  rw [List.append_assoc] at h
  exact h
theorem EsR.sub {w : World} {s : Sl} {es : List PE} (h : EsR w s es) (l k : Nat) (h1 : l ≤ k) (h2 : k ≤ s.n) : EsR w ⟨if s.c = l then s.a else s.a.map (·.add (l * 2)), k - l, s.c - l⟩ ((es.drop l).take (k - l)) := SlOf.sub h l k h1 h2

end Go.Proofs.YtkifkdkjljcclaaGreat
