/- More kinds of values of which laws speak: slices of bytes in slices. -/
import Derived.Test.YtkifkdkjljcclaaGreatPkLAnc20
namespace Go.Proofs.YtkifkdkjljcclaaGreat
open Go.Sx Go.RowKit
open Go.ChangeShapes Go.WideShapes Go.ChangeAt Go.Deep

structure SR where
  d : Sl
  data : List Int
instance : Inhabited SR := ⟨⟨⟨none, 0, 0⟩, []⟩⟩
def SR.cells (r : SR) : List Value := [.slice r.d.a r.d.n r.d.c]
theorem scells_len (r : SR) : r.cells.length = 1 := rfl
structure SsR (w : World) (s : Sl) (rs : List SR) : Prop where
  of : SlOf w s 1 SR.cells rs
  ok : ∀ r ∈ rs, BSl w r.d r.data
theorem SsR.at {w w' : World} {ls : List Blk} {s : Sl} {rs : List SR} (h : SsR w s rs) (hA : At w w' ls) : SsR w' s rs := ⟨h.of.below hA.below, fun r hr => (h.ok r hr).at hA⟩
theorem SsR.n {w : World} {s : Sl} {rs : List SR} (h : SsR w s rs) : s.n = rs.length := h.of.n
theorem SsR.get {w : World} {s : Sl} {rs : List SR} (h : SsR w s rs) {i : Nat} (hi : i < rs.length) : ∃ r p, rs[i]? = some r ∧ r ∈ rs ∧ s.a = some p ∧ BSl w r.d r.data ∧ ldOk w 1 (p.add (i * 1)) .slice r.d := by
  have hk : rs[i]? = some rs[i] := List.getElem?_eq_getElem hi
  obtain ⟨p, hp, _⟩ := h.of.cell hk
  refine ⟨_, p, hk, List.getElem_mem hi, hp, h.ok _ (List.getElem_mem hi), ?_⟩
  have := h.of.fld hk hp (n := 1) 0 (sh := .slice) (y := rs[i].d) rfl (by simp [Sh.emb])
  rwa [Nat.add_zero] at this

inductive OwnSD : List SR → List Blk → Prop where
  | nil : OwnSD [] []
  | cons {b : SR} {r : List SR} {L1 L2 : List Blk} : OwnS ty_uint8 1 b.d (u8s b.data) L1 → OwnSD r L2 → OwnSD (b :: r) (L1 ++ L2)
theorem OwnSD.append {r t : List SR} {L M : List Blk} (h : OwnSD r L) (k : OwnSD t M) : OwnSD (r ++ t) (L ++ M) := by
  induction h with
  | nil => exact k
  | cons h1 _ ih => rw [List.append_assoc]; exact .cons h1 ih
theorem OwnSD.snoc {r : List SR} {b : SR} {L M : List Blk} (h : OwnSD r L) (k : OwnS ty_uint8 1 b.d (u8s b.data) M) : OwnSD (r ++ [b]) (L ++ M) := by
  have := h.append (OwnSD.cons k .nil)
  simpa using this
theorem OwnSD.ok {w0 w : World} {ls L : List Blk} {rs : List SR} (h : OwnSD rs L) (hA : At w0 w ls) (hs : L.Sublist ls) (hb : ∀ x ∈ rs.map SR.data, bytesOk x) : ∀ r ∈ rs, BSl w r.d r.data := by
  induction h with
  | nil => simp
  | @cons b r L1 L2 h1 h2 ih =>
    intro x hx
    cases hx with
    | head => exact ownS_bytes h1 hA ((List.sublist_append_left _ _).trans hs) (hb b.data (by simp))
    | tail _ hx => exact ih ((List.sublist_append_right _ _).trans hs) (fun b hx => hb b (by simp only [List.map_cons, List.mem_cons]; exact .inr hx)) x hx
def OwnSs (s : Sl) (rs : List SR) (L : List Blk) : Prop := ∃ Lb Ld, L = Lb ++ Ld ∧ OwnS ty_sl_uint8 1 s (rs.flatMap SR.cells) Lb ∧ OwnSD rs Ld
theorem OwnSs.rd {w0 w : World} {ls L : List Blk} {s : Sl} {rs : List SR} (h : OwnSs s rs L) (hA : At w0 w (L ++ ls)) (hb : ∀ x ∈ rs.map SR.data, bytesOk x) : SsR w s rs := by
  obtain ⟨Lb, Ld, rfl, h1, h2⟩ := h
  rw [List.append_assoc] at hA
  exact ⟨h1.of hA (List.sublist_append_left _ _) (fun b _ => scells_len b) (by omega), h2.ok hA ((List.sublist_append_left _ _).trans (List.sublist_append_right _ _)) hb⟩
def RdByteSS (w : World) (s : Sl) (X : List (List Int)) : Prop := ∃ rs, rs.map SR.data = X ∧ SsR w s rs
theorem RdByteSS.at {w w' : World} {ls : List Blk} {s : Sl} {X : List (List Int)} (h : RdByteSS w s X) (hA : At w w' ls) : RdByteSS w' s X := let ⟨rs, h1, h2⟩ := h; ⟨rs, h1, h2.at hA⟩
def OwnByteSS (s : Sl) (X : List (List Int)) (L : List Blk) : Prop := ∃ rs, rs.map SR.data = X ∧ OwnSs s rs L ∧ ∀ x ∈ X, bytesOk x
theorem OwnByteSS.rd {w0 w : World} {s : Sl} {X : List (List Int)} {L ls : List Blk} (h : OwnByteSS s X L) (hA : At w0 w (L ++ ls)) : RdByteSS w s X := let ⟨rs, h1, h2, h3⟩ := h; ⟨rs, h1, h2.rd hA (h1 ▸ h3)⟩
theorem OwnByteSS.none : OwnByteSS ⟨none, 0, 0⟩ [] [] := ⟨[], rfl, ⟨[], [], rfl, OwnS.nil _ _, .nil⟩, by simp⟩
def RawByteSS (w : World) (s : Sl) (X : List (List Int)) : Prop := ∃ rs, rs.map SR.data = X ∧ SsR w s rs ∧ s.c ≤ maxLen ∧ ∀ r ∈ rs, r.d.c ≤ maxLen
theorem RawByteSS.rd {w : World} {s : Sl} {X : List (List Int)} (h : RawByteSS w s X) : RdByteSS w s X := let ⟨rs, h1, h2, _⟩ := h; ⟨rs, h1, h2⟩
end Go.Proofs.YtkifkdkjljcclaaGreat
