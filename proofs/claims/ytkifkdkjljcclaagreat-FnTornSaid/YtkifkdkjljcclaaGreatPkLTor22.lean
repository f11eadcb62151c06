/- More kinds of values of which laws speak: slices of commits, books. -/
import Derived.Test.YtkifkdkjljcclaaGreatPkLTor20
import Derived.Test.YtkifkdkjljcclaaGreatPkLTor21
namespace Go.Proofs.YtkifkdkjljcclaaGreat
open Go.Sx Go.RowKit
open Go.ChangeShapes Go.WideShapes Go.ChangeAt Go.Deep

structure PC where
  root : List Int
  ps : List (List Int)
  num : Int
  note : ByteArray
structure CR where
  root : List Int
  d : Sl
  ps : List (List Int)
  num : Int
  note : ByteArray
instance : Inhabited CR := ⟨⟨zero32, ⟨none, 0, 0⟩, [], 0, ⟨#[]⟩⟩⟩
def CR.pc (r : CR) : PC := ⟨r.root, r.ps, r.num, r.note⟩
def cmT (d : Sl) (num : Int) (note : ByteArray) : List Value := [.slice d.a d.n d.c, .int .i64 num, .string note]
def cmC (root : List Int) (d : Sl) (num : Int) (note : ByteArray) : List Value := u8s root ++ cmT d num note
def CR.cells (r : CR) : List Value := cmC r.root r.d r.num r.note
def PC.ok (c : PC) : Prop := keyOk c.root ∧ ∀ k ∈ c.ps, keyOk k
theorem cmC_len {root : List Int} (h : keyOk root) (d : Sl) (num : Int) (note : ByteArray) : (cmC root d num note).length = 35 := by unfold cmC; rw [List.length_append, u8s_len, h.1]; rfl
theorem crcells_len {r : CR} (h : keyOk r.root) : r.cells.length = 35 := cmC_len h ..
theorem cm_at {root : List Int} (h : keyOk root) (d : Sl) (num : Int) (note : ByteArray) (j : Nat) : (cmC root d num note)[32 + j]? = (cmT d num note)[j]? := by
  unfold cmC
  have e : (u8s root).length = 32 := by rw [u8s_len]; exact h.1
  rw [List.getElem?_append_right (by omega), e, Nat.add_sub_cancel_left]
theorem cm_d {root : List Int} (h : keyOk root) (d : Sl) (num : Int) (note : ByteArray) : (cmC root d num note).toArray[32]? = some (.slice d.a d.n d.c) := by rw [List.getElem?_toArray]; exact cm_at h d num note 0
theorem cm_num {root : List Int} (h : keyOk root) (d : Sl) (num : Int) (note : ByteArray) : (cmC root d num note).toArray[33]? = some (.int .i64 num) := by rw [List.getElem?_toArray]; exact cm_at h d num note 1
theorem cm_note {root : List Int} (h : keyOk root) (d : Sl) (num : Int) (note : ByteArray) : (cmC root d num note).toArray[34]? = some (.string note) := by rw [List.getElem?_toArray]; exact cm_at h d num note 2
structure CsR (w : World) (s : Sl) (rs : List CR) : Prop where
  of : SlOf w s 35 CR.cells rs
  ok : ∀ r ∈ rs, keyOk r.root ∧ KsR w r.d r.ps
theorem CsR.below {w w' : World} {s : Sl} {rs : List CR} (h : CsR w s rs) (hb : Below w.heap.size w w') : CsR w' s rs := ⟨h.of.below hb, fun r hr => ⟨(h.ok r hr).1, (h.ok r hr).2.below hb⟩⟩
theorem CsR.at {w w' : World} {bl : List Blk} {s : Sl} {rs : List CR} (h : CsR w s rs) (hA : At w w' bl) : CsR w' s rs := h.below hA.below
theorem CsR.n {w : World} {s : Sl} {rs : List CR} (h : CsR w s rs) : s.n = rs.length := h.of.n
structure CmAt (w : World) (p : Addr) (r : CR) : Prop where
  all : ldOk w 35 p .agg r.cells.toArray
  key : ldOk w 32 (p.add 0) .agg (u8s r.root).toArray
  d : ldOk w 1 (p.add 32) .slice r.d
  num : ldOk w 1 (p.add 33) (.int .i64) r.num
  note : ldOk w 1 (p.add 34) .str r.note
theorem cmAt_of {w : World} {p : Addr} {r : CR} (hko : keyOk r.root) (ha : ldOk w 35 p .agg r.cells.toArray) : CmAt w p r := by
  refine ⟨ha, ⟨by simp [hko.1], fun j v hv => ?_⟩, ha.2 32 _ (cm_d hko ..), ha.2 33 _ (cm_num hko ..), ha.2 34 _ (cm_note hko ..)⟩
  rw [Go.Deep.add_add, Nat.zero_add]
  refine ha.2 j v ?_
  rw [List.getElem?_toArray] at hv ⊢
  show (u8s r.root ++ _)[j]? = _
  rw [List.getElem?_append_left (List.getElem?_eq_some_iff.1 hv).1]
  exact hv
theorem CmAt.below {w w' : World} {p : Addr} {r : CR} (h : CmAt w p r) (hb : Below w.heap.size w w') : CmAt w' p r := ⟨ldOk_below hb h.all, ldOk_below hb h.key, ldOk_below hb h.d, ldOk_below hb h.num, ldOk_below hb h.note⟩
theorem CmAt.at {w w' : World} {bl : List Blk} {p : Addr} {r : CR} (h : CmAt w p r) (hA : At w w' bl) : CmAt w' p r := h.below hA.below
theorem CsR.get {w : World} {s : Sl} {rs : List CR} (h : CsR w s rs) {i : Nat} (hi : i < rs.length) : ∃ r p, rs[i]? = some r ∧ r ∈ rs ∧ s.a = some p ∧ keyOk r.root ∧ KsR w r.d r.ps ∧ CmAt w (p.add (i * 35)) r := by
  have hk : rs[i]? = some rs[i] := List.getElem?_eq_getElem hi
  obtain ⟨p, hp, _⟩ := h.of.cell hk
  have ho := h.ok _ (List.getElem_mem hi)
  exact ⟨_, p, hk, List.getElem_mem hi, hp, ho.1, ho.2, cmAt_of ho.1 (h.of.agg hk hp)⟩

inductive OwnCD : List CR → List Blk → Prop where
  | nil : OwnCD [] []
  | cons {b : CR} {r : List CR} {L1 L2 : List Blk} : OwnKeyS b.d b.ps L1 → OwnCD r L2 → OwnCD (b :: r) (L1 ++ L2)
theorem OwnCD.append {r t : List CR} {L M : List Blk} (h : OwnCD r L) (k : OwnCD t M) : OwnCD (r ++ t) (L ++ M) := by
  induction h with
  | nil => exact k
  | cons h1 _ ih => rw [List.append_assoc]; exact .cons h1 ih
theorem OwnCD.snoc {r : List CR} {b : CR} {L M : List Blk} (h : OwnCD r L) (k : OwnKeyS b.d b.ps M) : OwnCD (r ++ [b]) (L ++ M) := by
  have := h.append (OwnCD.cons k .nil)
  simpa using this
theorem OwnCD.ok {w0 w : World} {ls L : List Blk} {rs : List CR} (h : OwnCD rs L) (hA : At w0 w ls) (hs : L.Sublist ls) : ∀ r ∈ rs, KsR w r.d r.ps := by
  induction h with
  | nil => simp
  | @cons b r L1 L2 h1 h2 ih =>
    intro x hx
    cases hx with
    | head => exact ownS_ks h1.1 hA ((List.sublist_append_left _ _).trans hs) h1.2
    | tail _ hx => exact ih ((List.sublist_append_right _ _).trans hs) x hx
def OwnCms (s : Sl) (rs : List CR) (L : List Blk) : Prop := ∃ Lb Ld, L = Lb ++ Ld ∧ OwnS ty_impl_Commit 35 s (rs.flatMap CR.cells) Lb ∧ OwnCD rs Ld ∧ ∀ r ∈ rs, keyOk r.root
theorem OwnCms.rd {w0 w : World} {ls L : List Blk} {s : Sl} {rs : List CR} (h : OwnCms s rs L) (hA : At w0 w ls) (hs : L.Sublist ls) : CsR w s rs := by
  obtain ⟨Lb, Ld, rfl, h1, h2, h3⟩ := h
  exact ⟨h1.of hA ((List.sublist_append_left _ _).trans hs) (fun b hb => cmC_len (h3 b hb) ..) (by omega), fun r hr => ⟨h3 r hr, h2.ok hA ((List.sublist_append_right _ _).trans hs) r hr⟩⟩
theorem OwnCms.n {s : Sl} {rs : List CR} {L : List Blk} (h : OwnCms s rs L) : s.n = rs.length := by
  obtain ⟨Lb, Ld, rfl, h1, h2, h3⟩ := h
  have := h1.1
  rw [flatMap_length (z := 35) (fun b hb => crcells_len (h3 b hb))] at this
  omega
def RdCommitS (w : World) (s : Sl) (X : List PC) : Prop := ∃ rs, rs.map CR.pc = X ∧ CsR w s rs
theorem RdCommitS.at {w w' : World} {ls : List Blk} {s : Sl} {X : List PC} (h : RdCommitS w s X) (hA : At w w' ls) : RdCommitS w' s X := let ⟨rs, h1, h2⟩ := h; ⟨rs, h1, h2.at hA⟩
def OwnCommitS (s : Sl) (X : List PC) (L : List Blk) : Prop := ∃ rs, rs.map CR.pc = X ∧ OwnCms s rs L
theorem OwnCommitS.rd {w0 w : World} {s : Sl} {X : List PC} {L ls : List Blk} (h : OwnCommitS s X L) (hA : At w0 w ls) (hs : L.Sublist ls) : RdCommitS w s X := let ⟨rs, h1, h2⟩ := h; ⟨rs, h1, h2.rd hA hs⟩
theorem OwnCommitS.none : OwnCommitS ⟨none, 0, 0⟩ [] [] := ⟨[], rfl, [], [], rfl, OwnS.nil _ _, .nil, by simp⟩
def RawCommitS (w : World) (s : Sl) (X : List PC) : Prop := ∃ rs, rs.map CR.pc = X ∧ CsR w s rs ∧ s.c ≤ maxLen ∧ ∀ r ∈ rs, RawKeyS w r.d r.ps ∧ r.note.size ≤ maxLen
theorem RawCommitS.rd {w : World} {s : Sl} {X : List PC} (h : RawCommitS w s X) : RdCommitS w s X := let ⟨rs, h1, h2, _⟩ := h; ⟨rs, h1, h2⟩
structure PBk where
  cms : List PC
  maps : List (List PE)
def bkC (s t : Sl) : Array Value := #[.slice s.a s.n s.c, .slice t.a t.n t.c]
theorem bkC_one (s t : Sl) : ∀ v ∈ (bkC s t).toList, oneC v = true := by simp [bkC, oneC]
def RdBook (w : World) (r : Array Value) (b : PBk) : Prop := ∃ s t, r = bkC s t ∧ RdCommitS w s b.cms ∧ RdEntrySS w t b.maps
theorem RdBook.at {w w' : World} {ls : List Blk} {r : Array Value} {b : PBk} (h : RdBook w r b) (hA : At w w' ls) : RdBook w' r b := let ⟨s, t, h1, h2, h3⟩ := h; ⟨s, t, h1, h2.at hA, h3.at hA⟩
def OwnBook (r : Array Value) (b : PBk) (L : List Blk) : Prop := ∃ s t L1 L2, r = bkC s t ∧ L = L1 ++ L2 ∧ OwnCommitS s b.cms L1 ∧ OwnEntrySS t b.maps L2
theorem OwnBook.rd {w0 w : World} {r : Array Value} {b : PBk} {L ls : List Blk} (h : OwnBook r b L) (hA : At w0 w (L ++ ls)) : RdBook w r b := by
  obtain ⟨s, t, L1, L2, h1, rfl, h2, rs, h3, h4⟩ := h
  exact ⟨s, t, h1, h2.rd hA ((List.sublist_append_left _ _).trans (List.sublist_append_left _ _)), rs, h3, h4.rd hA ((List.sublist_append_right _ _).trans (List.sublist_append_left _ _))⟩
theorem OwnBook.none : OwnBook (bkC ⟨.none, 0, 0⟩ ⟨.none, 0, 0⟩) ⟨[], []⟩ [] := ⟨_, _, [], [], rfl, rfl, OwnCommitS.none, OwnEntrySS.none⟩
def RawBook (w : World) (r : Array Value) (b : PBk) : Prop := ∃ s t, r = bkC s t ∧ RawCommitS w s b.cms ∧ RawEntrySS w t b.maps
theorem RawBook.rd {w : World} {r : Array Value} {b : PBk} (h : RawBook w r b) : RdBook w r b := let ⟨s, t, h1, h2, h3⟩ := h; ⟨s, t, h1, h2.rd, h3.rd⟩
theorem RawBook.sz {w : World} {r : Array Value} {b : PBk} (h : RawBook w r b) : r.size = 2 := by obtain ⟨s, t, rfl, _⟩ := h; rfl
theorem RawBook.one {w : World} {r : Array Value} {b : PBk} (h : RawBook w r b) : ∀ v ∈ r.toList, oneC v = true := by obtain ⟨s, t, rfl, _⟩ := h; exact bkC_one s t
theorem OwnBook.sz {r : Array Value} {b : PBk} {L : List Blk} (h : OwnBook r b L) : r.size = 2 := by obtain ⟨s, t, _, _, rfl, _⟩ := h; rfl
theorem OwnBook.one {r : Array Value} {b : PBk} {L : List Blk} (h : OwnBook r b L) : ∀ v ∈ r.toList, oneC v = true := by obtain ⟨s, t, _, _, rfl, _⟩ := h; exact bkC_one s t
end Go.Proofs.YtkifkdkjljcclaaGreat
