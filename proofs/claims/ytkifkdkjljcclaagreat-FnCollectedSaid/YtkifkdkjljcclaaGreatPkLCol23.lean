/- More kinds of values of which laws speak: slices of entries. More kinds of values of which laws speak: slices of slices of entries. More kinds of values of which laws speak: slices of leases. -/
import Derived.ChangeMaps5
import Derived.Test.YtkifkdkjljcclaaGreatPkLCol18
import Derived.Test.YtkifkdkjljcclaaGreatPkLCol19
import Derived.Test.YtkifkdkjljcclaaGreatPkLCol20
namespace Go.Proofs.YtkifkdkjljcclaaGreat
open Go.Sx Go.RowKit
open Go.ChangeShapes Go.WideShapes Go.ChangeAt Go.Deep

abbrev PE := ByteArray × ByteArray
def entC (l : PE) : List Value := [.string l.1, .string l.2]
theorem entC_len (l : PE) : (entC l).length = 2 := rfl
theorem entC_one (l : PE) : ∀ v ∈ entC l, oneC v = true := by
  intro v hv
  unfold entC at hv
  simp only [List.mem_cons, List.not_mem_nil, or_false] at hv
  rcases hv with rfl | rfl <;> rfl
abbrev EsR (w : World) (s : Sl) (es : List PE) : Prop := SlOf w s 2 entC es
theorem EsR.get {w : World} {s : Sl} {es : List PE} (h : EsR w s es) {i : Nat} (hi : i < es.length) : ∃ l p, es[i]? = some l ∧ l ∈ es ∧ s.a = some p ∧ ldOk w 2 (p.add (i * 2)) .agg (entC l).toArray ∧ ldOk w 1 ((p.add (i * 2)).add 0) .str l.1 ∧ ldOk w 1 ((p.add (i * 2)).add 1) .str l.2 := by
  have hk : es[i]? = some es[i] := List.getElem?_eq_getElem hi
  obtain ⟨p, hp, _⟩ := h.cell hk
  have ha := h.agg hk hp
  exact ⟨_, p, hk, List.getElem_mem hi, hp, ha, ha.2 0 _ rfl, ha.2 1 _ rfl⟩

def RdEntryS (w : World) (s : Sl) (es : List PE) : Prop := EsR w s es
theorem RdEntryS.at {w w' : World} {bl : List Blk} {s : Sl} {es : List PE} (h : RdEntryS w s es) (hA : At w w' bl) : RdEntryS w' s es := h.below hA.below
def OwnEntryS (s : Sl) (es : List PE) (L : List Blk) : Prop := OwnS ty_impl_Entry 2 s (es.flatMap entC) L
theorem OwnEntryS.none : OwnEntryS ⟨none, 0, 0⟩ [] [] := OwnS.nil _ _
theorem OwnEntryS.rd {w0 w : World} {s : Sl} {es : List PE} {L bl : List Blk} (h : OwnEntryS s es L) (hA : At w0 w (L ++ bl)) : RdEntryS w s es := OwnS.of h hA (List.sublist_append_left _ _) (fun l _ => entC_len l) (by omega)
theorem OwnEntryS.n {s : Sl} {es : List PE} {L : List Blk} (h : OwnEntryS s es L) : s.n = es.length := by have := h.1; rw [flatMap_length (z := 2) (fun l _ => entC_len l)] at this; omega
def RawEntryS (w : World) (s : Sl) (es : List PE) : Prop := EsR w s es ∧ s.c ≤ maxLen ∧ ∀ e ∈ es, e.1.size ≤ maxLen ∧ e.2.size ≤ maxLen
theorem RawEntryS.rd {w : World} {s : Sl} {es : List PE} (h : RawEntryS w s es) : RdEntryS w s es := h.1
def sumE (es : List PE) : Nat := (es.map fun e => e.1.size + e.2.size).sum
def sizeEntryS (es : List PE) : Nat := es.length + sumE es
theorem T_sl_Entry : SlT Tryz.prog ty_sl_impl_Entry ty_impl_Entry 2 32 := slT_of (by kernel_rfl)

end Go.Proofs.YtkifkdkjljcclaaGreat

namespace Go.Proofs.YtkifkdkjljcclaaGreat
open Go.Sx Go.RowKit
open Go.ChangeShapes Go.WideShapes Go.ChangeAt Go.Deep

structure ER where
  d : Sl
  es : List PE
instance : Inhabited ER := ⟨⟨⟨none, 0, 0⟩, []⟩⟩
def ER.cells (r : ER) : List Value := [.slice r.d.a r.d.n r.d.c]
theorem ercells_len (r : ER) : r.cells.length = 1 := rfl
structure EssR (w : World) (s : Sl) (rs : List ER) : Prop where
  of : SlOf w s 1 ER.cells rs
  ok : ∀ r ∈ rs, EsR w r.d r.es
theorem EssR.below {w w' : World} {s : Sl} {rs : List ER} (h : EssR w s rs) (hb : Below w.heap.size w w') : EssR w' s rs := ⟨h.of.below hb, fun r hr => SlOf.below (h.ok r hr) hb⟩
theorem EssR.at {w w' : World} {ls : List Blk} {s : Sl} {rs : List ER} (h : EssR w s rs) (hA : At w w' ls) : EssR w' s rs := h.below hA.below
theorem EssR.n {w : World} {s : Sl} {rs : List ER} (h : EssR w s rs) : s.n = rs.length := h.of.n
theorem EssR.get {w : World} {s : Sl} {rs : List ER} (h : EssR w s rs) {i : Nat} (hi : i < rs.length) : ∃ r p, rs[i]? = some r ∧ r ∈ rs ∧ s.a = some p ∧ EsR w r.d r.es ∧ ldOk w 1 (p.add (i * 1)) .slice r.d := by
  have hk : rs[i]? = some rs[i] := List.getElem?_eq_getElem hi
  obtain ⟨p, hp, _⟩ := h.of.cell hk
  refine ⟨_, p, hk, List.getElem_mem hi, hp, h.ok _ (List.getElem_mem hi), ?_⟩
  have := h.of.fld hk hp (n := 1) 0 (sh := .slice) (y := rs[i].d) rfl (by simp [Sh.emb])
  rwa [Nat.add_zero] at this

inductive OwnED : List ER → List Blk → Prop where
  | nil : OwnED [] []
  | cons {b : ER} {r : List ER} {L1 L2 : List Blk} : OwnEntryS b.d b.es L1 → OwnED r L2 → OwnED (b :: r) (L1 ++ L2)
theorem OwnED.append {r t : List ER} {L M : List Blk} (h : OwnED r L) (k : OwnED t M) : OwnED (r ++ t) (L ++ M) := by
  induction h with
  | nil => exact k
  | cons h1 _ ih => rw [List.append_assoc]; exact .cons h1 ih
theorem OwnED.snoc {r : List ER} {b : ER} {L M : List Blk} (h : OwnED r L) (k : OwnEntryS b.d b.es M) : OwnED (r ++ [b]) (L ++ M) := by
  have := h.append (OwnED.cons k .nil)
  simpa using this
theorem OwnED.ok {w0 w : World} {ls L : List Blk} {rs : List ER} (h : OwnED rs L) (hA : At w0 w ls) (hs : L.Sublist ls) : ∀ r ∈ rs, EsR w r.d r.es := by
  induction h with
  | nil => simp
  | @cons b r L1 L2 h1 h2 ih =>
    intro x hx
    cases hx with
    | head => exact OwnS.of h1 hA ((List.sublist_append_left _ _).trans hs) (fun l _ => entC_len l) (by omega)
    | tail _ hx => exact ih ((List.sublist_append_right _ _).trans hs) x hx
def OwnEss (s : Sl) (rs : List ER) (L : List Blk) : Prop := ∃ Lb Ld, L = Lb ++ Ld ∧ OwnS ty_sl_impl_Entry 1 s (rs.flatMap ER.cells) Lb ∧ OwnED rs Ld
theorem OwnEss.rd {w0 w : World} {ls L : List Blk} {s : Sl} {rs : List ER} (h : OwnEss s rs L) (hA : At w0 w ls) (hs : L.Sublist ls) : EssR w s rs := by
  obtain ⟨Lb, Ld, rfl, h1, h2⟩ := h
  exact ⟨h1.of hA ((List.sublist_append_left _ _).trans hs) (fun b _ => ercells_len b) (by omega), h2.ok hA ((List.sublist_append_right _ _).trans hs)⟩
def RdEntrySS (w : World) (s : Sl) (X : List (List PE)) : Prop := ∃ rs, rs.map ER.es = X ∧ EssR w s rs
theorem RdEntrySS.at {w w' : World} {ls : List Blk} {s : Sl} {X : List (List PE)} (h : RdEntrySS w s X) (hA : At w w' ls) : RdEntrySS w' s X := let ⟨rs, h1, h2⟩ := h; ⟨rs, h1, h2.at hA⟩
def OwnEntrySS (s : Sl) (X : List (List PE)) (L : List Blk) : Prop := ∃ rs, rs.map ER.es = X ∧ OwnEss s rs L
theorem OwnEntrySS.rd {w0 w : World} {s : Sl} {X : List (List PE)} {L ls : List Blk} (h : OwnEntrySS s X L) (hA : At w0 w (L ++ ls)) : RdEntrySS w s X := let ⟨rs, h1, h2⟩ := h; ⟨rs, h1, h2.rd hA (List.sublist_append_left _ _)⟩
theorem OwnEntrySS.none : OwnEntrySS ⟨none, 0, 0⟩ [] [] := ⟨[], rfl, [], [], rfl, OwnS.nil _ _, .nil⟩
def RawEntrySS (w : World) (s : Sl) (X : List (List PE)) : Prop := ∃ rs, rs.map ER.es = X ∧ EssR w s rs ∧ s.c ≤ maxLen ∧ ∀ r ∈ rs, RawEntryS w r.d r.es
theorem RawEntrySS.rd {w : World} {s : Sl} {X : List (List PE)} (h : RawEntrySS w s X) : RdEntrySS w s X := let ⟨rs, h1, h2, _⟩ := h; ⟨rs, h1, h2⟩
end Go.Proofs.YtkifkdkjljcclaaGreat

namespace Go.Proofs.YtkifkdkjljcclaaGreat
open Go.Sx Go.RowKit
open Go.ChangeShapes Go.WideShapes Go.ChangeAt Go.Deep

abbrev PL := List Int × Int
def leaseC (l : PL) : List Value := u8s l.1 ++ [.int .i64 l.2]
theorem leaseC_len {l : PL} (h : keyOk l.1) : (leaseC l).length = 33 := by unfold leaseC; rw [List.length_append, u8s_len, h.1]; rfl
theorem leaseC_one (l : PL) : ∀ v ∈ leaseC l, oneC v = true := by
  intro v hv
  unfold leaseC at hv
  rcases List.mem_append.1 hv with h | h
  · exact u8s_one v h
  · rw [List.mem_singleton.1 h]; rfl
theorem lease_key {l : PL} (h : keyOk l.1) : (leaseC l).toArray.extract 0 (0 + 32) = (u8s l.1).toArray := by
  apply Array.ext'
  rw [List.extract_toArray]
  show ((leaseC l).drop 0).take (0 + 32 - 0) = _
  have e : (u8s l.1).length = 32 := by rw [u8s_len]; exact h.1
  unfold leaseC
  rw [List.drop_zero, List.take_append_of_le_length (by omega), List.take_of_length_le (by omega)]
theorem lease_til {l : PL} (h : keyOk l.1) : (leaseC l)[32]? = some (.int .i64 l.2) := by
  unfold leaseC
  have e : (u8s l.1).length = 32 := by rw [u8s_len]; exact h.1
  rw [List.getElem?_append_right (by omega), e]
  rfl
structure LsR (w : World) (s : Sl) (ls : List PL) : Prop where
  of : SlOf w s 33 leaseC ls
  ok : ∀ l ∈ ls, keyOk l.1
theorem LsR.at {w w' : World} {bl : List Blk} {s : Sl} {ls : List PL} (h : LsR w s ls) (hA : At w w' bl) : LsR w' s ls := ⟨h.of.below hA.below, h.ok⟩
theorem LsR.n {w : World} {s : Sl} {ls : List PL} (h : LsR w s ls) : s.n = ls.length := h.of.n
theorem LsR.get {w : World} {s : Sl} {ls : List PL} (h : LsR w s ls) {i : Nat} (hi : i < ls.length) : ∃ l p, ls[i]? = some l ∧ l ∈ ls ∧ s.a = some p ∧ keyOk l.1 ∧ ldOk w 33 (p.add (i * 33)) .agg (leaseC l).toArray ∧ ldOk w 32 ((p.add (i * 33)).add 0) .agg (u8s l.1).toArray ∧ ldOk w 1 ((p.add (i * 33)).add 32) (.int .i64) l.2 := by
  have hk : ls[i]? = some ls[i] := List.getElem?_eq_getElem hi
  obtain ⟨p, hp, _⟩ := h.of.cell hk
  have ha := h.of.agg hk hp
  have hko := h.ok _ (List.getElem_mem hi)
  refine ⟨_, p, hk, List.getElem_mem hi, hp, hko, ha, ⟨by simp [hko.1], fun j v hv => ?_⟩, ha.2 32 _ (by rw [List.getElem?_toArray]; exact lease_til hko)⟩
  rw [Go.Deep.add_add, Nat.zero_add]
  refine ha.2 j v ?_
  rw [List.getElem?_toArray] at hv ⊢
  unfold leaseC
  rw [List.getElem?_append_left (List.getElem?_eq_some_iff.1 hv).1]
  exact hv

def RdLeaseS (w : World) (s : Sl) (ls : List PL) : Prop := LsR w s ls
theorem RdLeaseS.at {w w' : World} {bl : List Blk} {s : Sl} {ls : List PL} (h : RdLeaseS w s ls) (hA : At w w' bl) : RdLeaseS w' s ls := LsR.at h hA
def OwnLeaseS (s : Sl) (ls : List PL) (L : List Blk) : Prop := OwnS ty_impl_Lease 33 s (ls.flatMap leaseC) L ∧ ∀ l ∈ ls, keyOk l.1
theorem OwnLeaseS.rd {w0 w : World} {s : Sl} {ls : List PL} {L bl : List Blk} (h : OwnLeaseS s ls L) (hA : At w0 w (L ++ bl)) : RdLeaseS w s ls := ⟨h.1.of hA (List.sublist_append_left _ _) (fun l hl => leaseC_len (h.2 l hl)) (by omega), h.2⟩
def RawLeaseS (w : World) (s : Sl) (ls : List PL) : Prop := LsR w s ls ∧ s.n ≤ s.c ∧ s.c ≤ maxLen
theorem RawLeaseS.rd {w : World} {s : Sl} {ls : List PL} (h : RawLeaseS w s ls) : RdLeaseS w s ls := h.1
def sizeLeaseS (ls : List PL) : Nat := ls.length
theorem T_sl_Lease : SlT Tryz.prog ty_sl_impl_Lease ty_impl_Lease 33 40 := slT_of (by kernel_rfl)

end Go.Proofs.YtkifkdkjljcclaaGreat
