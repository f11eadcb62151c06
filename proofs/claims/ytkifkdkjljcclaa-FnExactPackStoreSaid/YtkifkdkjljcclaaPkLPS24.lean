/- Packs: what they are, and what is read of them. Plain. The laws' own source of test data: bytes picked, keys. More kinds of values of which laws speak: slices of slices of entries. More kinds of values of which laws speak: slices of leases. More kinds of values of which laws speak: slices of commits, books. -/
import Derived.Test.YtkifkdkjljcclaaPkLPS23
import Derived.Test.YtkifkdkjljcclaaPkLPS22
import Derived.Test.YtkifkdkjljcclaaPkLPS21
namespace Go.Proofs.Ytkifkdkjljcclaa
open Go.Sx Go.RowKit

def bestBase (B : List PB) (b : PB) : Nat → Option (Nat × List Int)
  | 0 => none
  | k + 1 => match B[k]? with
    | none => bestBase B b k
    | some c => if c.tag ≠ b.tag then bestBase B b k else
      if (deltaB c.data b.data).length ≤ 1024 ∧ (∀ x ∈ bestBase B b k, (deltaB c.data b.data).length < x.2.length) then some (k, deltaB c.data b.data) else bestBase B b k
def chooseB (B : List PB) (b : PB) (k : Nat) : Option (Nat × List Int) := match bestBase B b k with
  | some x => if x.2.length + 1 < b.data.length then some x else none
  | none => none
theorem chooseB_succ (B : List PB) (b : PB) (k : Nat) : chooseB B b (k + 1) = match B[k]? with
    | none => chooseB B b k
    | some c => if c.tag ≠ b.tag then chooseB B b k else
      if (deltaB c.data b.data).length ≤ 1024 ∧ (deltaB c.data b.data).length + 1 < b.data.length ∧ (∀ x ∈ chooseB B b k, (deltaB c.data b.data).length < x.2.length) then some (k, deltaB c.data b.data) else chooseB B b k := by
  unfold chooseB
  rw [bestBase]
  cases hB : B[k]? with
  | none => rfl
  | some c =>
    dsimp only
    by_cases ht : c.tag ≠ b.tag
    · rw [if_pos ht, if_pos ht]
    rw [if_neg ht, if_neg ht]
    generalize deltaB c.data b.data = p
    cases hb : bestBase B b k with
    | none =>
      by_cases h1 : p.length ≤ 1024
      · by_cases h2 : p.length + 1 < b.data.length
        · simp [h1, h2]
        · simp [h1, h2]
      · simp [h1]
    | some x =>
      by_cases h1 : p.length ≤ 1024
      · by_cases h3 : p.length < x.2.length
        · by_cases h2 : p.length + 1 < b.data.length
          · by_cases h4 : x.2.length + 1 < b.data.length
            · simp [h1, h2, h3, h4]
            · simp [h1, h2, h3, h4]
          · have h4 : ¬ x.2.length + 1 < b.data.length := by omega
            simp [h1, h2, h3, h4]
        · by_cases h4 : x.2.length + 1 < b.data.length
          · simp [h1, h3, h4]
          · have h2 : ¬ p.length + 1 < b.data.length := by omega
            simp [h1, h2, h3, h4]
      · simp [h1]
theorem bestBase_ok {B : List PB} {b : PB} : ∀ {k : Nat} {x : Nat × List Int}, bestBase B b k = some x → ∃ c, B[x.1]? = some c ∧ x.1 < k ∧ x.2 = deltaB c.data b.data ∧ x.2.length ≤ 1024
  | 0, _, h => by cases h
  | k + 1, x, h => by
    unfold bestBase at h
    split at h
    · obtain ⟨c, h1, h2, h3⟩ := bestBase_ok h
      exact ⟨c, h1, by omega, h3⟩
    · rename_i c hc
      split at h
      · obtain ⟨c, h1, h2, h3⟩ := bestBase_ok h
        exact ⟨c, h1, by omega, h3⟩
      · split at h
        · rename_i h5
          cases h
          exact ⟨c, hc, by omega, rfl, h5.1⟩
        · obtain ⟨c, h1, h2, h3⟩ := bestBase_ok h
          exact ⟨c, h1, by omega, h3⟩
theorem chooseB_ok {B : List PB} {b : PB} {k : Nat} {x : Nat × List Int} (h : chooseB B b k = some x) : ∃ c, B[x.1]? = some c ∧ x.1 < k ∧ x.2 = deltaB c.data b.data ∧ x.2.length ≤ 1024 := by
  unfold chooseB at h
  split at h
  · rename_i y hy
    split at h
    · cases h
      exact bestBase_ok hy
    · cases h
  · cases h
def headB (B : List PB) (b : PB) (k : Nat) : List Int := match chooseB B b k with
  | some x => [1, b.tag, (x.1 : Int)]
  | none => [0, b.tag]
def bodyB (B : List PB) (b : PB) (k : Nat) : List Int := match chooseB B b k with
  | some x => x.2
  | none => b.data
def recB (B : List PB) (b : PB) (k : Nat) : List Int := headB B b k ++ leB (bodyB B b k).length 2 ++ bodyB B b k ++ b.key.take 4
def recsB (B : List PB) : Nat → List Int
  | 0 => [72, 84, 80, 49]
  | i + 1 => match B[i]? with
    | some b => recsB B i ++ recB B b i
    | none => recsB B i
def packB (B : List PB) : List Int := recsB B B.length ++ [2, (B.length : Int)] ++ hashL 8 (recsB B B.length)
theorem recsB_succ {B : List PB} {i : Nat} {b : PB} (h : B[i]? = some b) : recsB B (i + 1) = recsB B i ++ recB B b i := by
  show (match B[i]? with
    | some b => recsB B i ++ recB B b i
    | none => recsB B i) = _
  rw [h]
theorem key4_len (b : PB) : (b.key.take 4).length = 4 := by
  rw [List.length_take]
  have : b.key.length = 32 := hashL_len _ _
  omega
theorem headB_len (B : List PB) (b : PB) (k : Nat) : (headB B b k).length ≤ 3 := by unfold headB; split <;> simp
theorem bodyB_len {B : List PB} {b : PB} {k : Nat} (h : b.data.length ≤ 1024) : (bodyB B b k).length ≤ 1024 := by
  unfold bodyB
  split
  · rename_i x hx
    exact (chooseB_ok hx).choose_spec.2.2.2
  · exact h
theorem recB_len {B : List PB} {b : PB} {k : Nat} (h : b.data.length ≤ 1024) : (recB B b k).length ≤ 1033 ∧ 8 ≤ (recB B b k).length := by
  have h1 := headB_len B b k
  have h2 := bodyB_len (B := B) (k := k) h
  have h3 := key4_len b
  have h4 : 2 ≤ (headB B b k).length := by unfold headB; split <;> simp
  unfold recB
  rw [List.length_append, List.length_append, List.length_append, leB_len, h3]
  omega
theorem recsB_len {B : List PB} (h : ∀ b ∈ B, b.data.length ≤ 1024) : ∀ i, (recsB B i).length ≤ 4 + 1033 * i ∧ 4 ≤ (recsB B i).length
  | 0 => by simp [recsB]
  | i + 1 => by
    have ih := recsB_len h i
    cases hb : B[i]? with
    | none =>
      have : recsB B (i + 1) = recsB B i := by
        show (match B[i]? with
          | some b => recsB B i ++ recB B b i
          | none => recsB B i) = _
        rw [hb]
      rw [this]
      omega
    | some b =>
      rw [recsB_succ hb, List.length_append]
      have := recB_len (B := B) (k := i) (h b (List.mem_of_getElem? hb))
      omega
theorem packB_len (B : List PB) : (packB B).length = (recsB B B.length).length + 34 := by
  unfold packB
  rw [List.length_append, List.length_append, hashL_len]
  rfl

def rightP (d : List Int) (B : List PB) (b : PB) (fin : Nat) : Prop := (d.drop (fin - 4)).take 4 = b.key.take 4 ∧ ∀ c ∈ B.getLast?, ltL c.key b.key
instance (d : List Int) (B : List PB) (b : PB) (fin : Nat) : Decidable (rightP d B b fin) := by unfold rightP; infer_instance
theorem le2 {n : Nat} (h : n < 65536) : leB (n : Int) 2 = [(n : Int) % 256, (n : Int) / 256] := by
  have e1 : (2 : Int) ^ (8 * 0) = 1 := rfl
  have e2 : (2 : Int) ^ (8 * 1) = 256 := rfl
  show [(n : Int) / 2 ^ (8 * 0) % 256, (n : Int) / 2 ^ (8 * 1) % 256] = _
  rw [e1, e2]
  congr 1
  · simp
  · congr 1
    omega
end Go.Proofs.Ytkifkdkjljcclaa

namespace Go.Proofs.Ytkifkdkjljcclaa
open Go.Sx Go.RowKit

theorem bytesOk.set {l : List Int} (h : bytesOk l) (i : Nat) {v : Int} (hv : 0 ≤ v ∧ v < 256) : bytesOk (l.set i v) := fun b hb => by
  rcases List.mem_or_eq_of_mem_set hb with h1 | h1
  · exact h b h1
  · rw [h1]; exact hv

end Go.Proofs.Ytkifkdkjljcclaa

namespace Go.Proofs.Ytkifkdkjljcclaa
open Go.Sx Go.RowKit
open Go.ChangeShapes Go.WideShapes Go.ChangeAt Go.Deep

structure ER where
  d : Sl
  es : List PE
instance : Inhabited ER := ⟨⟨⟨none, 0, 0⟩, []⟩⟩
def ER.cells (r : ER) : List Value := [.slice r.d.a r.d.n r.d.c]
structure EssR (w : World) (s : Sl) (rs : List ER) : Prop where
  of : SlOf w s 1 ER.cells rs
  ok : ∀ r ∈ rs, EsR w r.d r.es
theorem EssR.below {w w' : World} {s : Sl} {rs : List ER} (h : EssR w s rs) (hb : Below w.heap.size w w') : EssR w' s rs := ⟨h.of.below hb, fun r hr => SlOf.below (h.ok r hr) hb⟩
theorem EssR.at {w w' : World} {ls : List Blk} {s : Sl} {rs : List ER} (h : EssR w s rs) (hA : At w w' ls) : EssR w' s rs := h.below hA.below
theorem EssR.n {w : World} {s : Sl} {rs : List ER} (h : EssR w s rs) : s.n = rs.length := h.of.n
theorem EssR.get {w : World} {s : Sl} {rs : List ER} (h : EssR w s rs) {i : Nat} (hi : i < rs.length) : ∃ r p, rs[i]? = some r ∧ r ∈ rs ∧ s.a = some p ∧ EsR w r.d r.es ∧ ldOk w 1 (p.add (i * 1)) .slice r.d := by
  have hk : rs[i]? = some rs[i] := List.getElem?_eq_getElem hi
  obtain ⟨p, hp, _⟩ := h.of.cell hk
  refine ⟨_, p, hk, List.getElem_mem hi, hp, h.ok _ (List.getElem_mem hi), ?_⟩
  have := h.of.fld hk hp (n := 1) 0 (sh := .slice) (y := rs[i].d) rfl (by simp [Sh.emb])
  rwa [Nat.add_zero] at this

def RdEntrySS (w : World) (s : Sl) (X : List (List PE)) : Prop := ∃ rs, rs.map ER.es = X ∧ EssR w s rs
theorem RdEntrySS.at {w w' : World} {ls : List Blk} {s : Sl} {X : List (List PE)} (h : RdEntrySS w s X) (hA : At w w' ls) : RdEntrySS w' s X := let ⟨rs, h1, h2⟩ := h; ⟨rs, h1, h2.at hA⟩
def RawEntrySS (w : World) (s : Sl) (X : List (List PE)) : Prop := ∃ rs, rs.map ER.es = X ∧ EssR w s rs ∧ s.c ≤ maxLen ∧ ∀ r ∈ rs, RawEntryS w r.d r.es
theorem RawEntrySS.rd {w : World} {s : Sl} {X : List (List PE)} (h : RawEntrySS w s X) : RdEntrySS w s X := let ⟨rs, h1, h2, _⟩ := h; ⟨rs, h1, h2⟩
end Go.Proofs.Ytkifkdkjljcclaa

namespace Go.Proofs.Ytkifkdkjljcclaa
open Go.Sx Go.RowKit
open Go.ChangeShapes Go.WideShapes Go.ChangeAt Go.Deep

abbrev PL := List Int × Int
def leaseC (l : PL) : List Value := u8s l.1 ++ [.int .i64 l.2]
theorem lease_til {l : PL} (h : keyOk l.1) : (leaseC l)[32]? = some (.int .i64 l.2) := by
  unfold leaseC
  have e : (u8s l.1).length = 32 := by rw [u8s_len]; exact h.1
  rw [List.getElem?_append_right (by omega), e]
  rfl
structure LsR (w : World) (s : Sl) (ls : List PL) : Prop where
  of : SlOf w s 33 leaseC ls
  ok : ∀ l ∈ ls, keyOk l.1
theorem LsR.at {w w' : World} {bl : List Blk} {s : Sl} {ls : List PL} (h : LsR w s ls) (hA : At w w' bl) : LsR w' s ls := ⟨h.of.below hA.below, h.ok⟩
theorem LsR.n {w : World} {s : Sl} {ls : List PL} (h : LsR w s ls) : s.n = ls.length := h.of.n
theorem LsR.get {w : World} {s : Sl} {ls : List PL} (h : LsR w s ls) {i : Nat} (hi : i < ls.length) : ∃ l p, ls[i]? = some l ∧ l ∈ ls ∧ s.a = some p ∧ keyOk l.1 ∧ ldOk w 33 (p.add (i * 33)) .agg (leaseC l).toArray ∧ ldOk w 32 ((p.add (i * 33)).add 0) .agg (u8s l.1).toArray ∧ ldOk w 1 ((p.add (i * 33)).add 32) (.int .i64) l.2 := by
  have hk : ls[i]? = some ls[i] := List.getElem?_eq_getElem hi
  obtain ⟨p, hp, _⟩ := h.of.cell hk
  have ha := h.of.agg hk hp
  have hko := h.ok _ (List.getElem_mem hi)
  refine ⟨_, p, hk, List.getElem_mem hi, hp, hko, ha, ⟨by simp [hko.1], fun j v hv => ?_⟩, ha.2 32 _ (by rw [List.getElem?_toArray]; exact lease_til hko)⟩
  rw [Go.Deep.add_add, Nat.zero_add]
  refine ha.2 j v ?_
  rw [List.getElem?_toArray] at hv ⊢
  unfold leaseC
  rw [List.getElem?_append_left (List.getElem?_eq_some_iff.1 hv).1]
  exact hv

def RdLeaseS (w : World) (s : Sl) (ls : List PL) : Prop := LsR w s ls
theorem RdLeaseS.at {w w' : World} {bl : List Blk} {s : Sl} {ls : List PL} (h : RdLeaseS w s ls) (hA : At w w' bl) : RdLeaseS w' s ls := LsR.at h hA
def RawLeaseS (w : World) (s : Sl) (ls : List PL) : Prop := LsR w s ls ∧ s.n ≤ s.c ∧ s.c ≤ maxLen
theorem RawLeaseS.rd {w : World} {s : Sl} {ls : List PL} (h : RawLeaseS w s ls) : RdLeaseS w s ls := h.1
end Go.Proofs.Ytkifkdkjljcclaa

namespace Go.Proofs.Ytkifkdkjljcclaa
open Go.Sx Go.RowKit
open Go.ChangeShapes Go.WideShapes Go.ChangeAt Go.Deep

structure PC where
  root : List Int
  ps : List (List Int)
  num : Int
  note : ByteArray
structure CR where
  root : List Int
  d : Sl
  ps : List (List Int)
  num : Int
  note : ByteArray
instance : Inhabited CR := ⟨⟨zero32, ⟨none, 0, 0⟩, [], 0, ⟨#[]⟩⟩⟩
def CR.pc (r : CR) : PC := ⟨r.root, r.ps, r.num, r.note⟩
def cmT (d : Sl) (num : Int) (note : ByteArray) : List Value := [.slice d.a d.n d.c, .int .i64 num, .string note]
def cmC (root : List Int) (d : Sl) (num : Int) (note : ByteArray) : List Value := u8s root ++ cmT d num note
def CR.cells (r : CR) : List Value := cmC r.root r.d r.num r.note
def PC.ok (c : PC) : Prop := keyOk c.root ∧ ∀ k ∈ c.ps, keyOk k
theorem cm_at {root : List Int} (h : keyOk root) (d : Sl) (num : Int) (note : ByteArray) (j : Nat) : (cmC root d num note)[32 + j]? = (cmT d num note)[j]? := by
  unfold cmC
  have e : (u8s root).length = 32 := by rw [u8s_len]; exact h.1
  rw [List.getElem?_append_right (by omega), e, Nat.add_sub_cancel_left]
theorem cm_d {root : List Int} (h : keyOk root) (d : Sl) (num : Int) (note : ByteArray) : (cmC root d num note).toArray[32]? = some (.slice d.a d.n d.c) := by rw [List.getElem?_toArray]; exact cm_at h d num note 0
theorem cm_num {root : List Int} (h : keyOk root) (d : Sl) (num : Int) (note : ByteArray) : (cmC root d num note).toArray[33]? = some (.int .i64 num) := by rw [List.getElem?_toArray]; exact cm_at h d num note 1
theorem cm_note {root : List Int} (h : keyOk root) (d : Sl) (num : Int) (note : ByteArray) : (cmC root d num note).toArray[34]? = some (.string note) := by rw [List.getElem?_toArray]; exact cm_at h d num note 2
structure CsR (w : World) (s : Sl) (rs : List CR) : Prop where
  of : SlOf w s 35 CR.cells rs
  ok : ∀ r ∈ rs, keyOk r.root ∧ KsR w r.d r.ps
theorem CsR.below {w w' : World} {s : Sl} {rs : List CR} (h : CsR w s rs) (hb : Below w.heap.size w w') : CsR w' s rs := ⟨h.of.below hb, fun r hr => ⟨(h.ok r hr).1, (h.ok r hr).2.below hb⟩⟩
theorem CsR.at {w w' : World} {bl : List Blk} {s : Sl} {rs : List CR} (h : CsR w s rs) (hA : At w w' bl) : CsR w' s rs := h.below hA.below
theorem CsR.n {w : World} {s : Sl} {rs : List CR} (h : CsR w s rs) : s.n = rs.length := h.of.n
structure CmAt (w : World) (p : Addr) (r : CR) : Prop where
  all : ldOk w 35 p .agg r.cells.toArray
  key : ldOk w 32 (p.add 0) .agg (u8s r.root).toArray
  d : ldOk w 1 (p.add 32) .slice r.d
  num : ldOk w 1 (p.add 33) (.int .i64) r.num
  note : ldOk w 1 (p.add 34) .str r.note
theorem cmAt_of {w : World} {p : Addr} {r : CR} (hko : keyOk r.root) (ha : ldOk w 35 p .agg r.cells.toArray) : CmAt w p r := by
  refine ⟨ha, ⟨by simp [hko.1], fun j v hv => ?_⟩, ha.2 32 _ (cm_d hko ..), ha.2 33 _ (cm_num hko ..), ha.2 34 _ (cm_note hko ..)⟩
  rw [Go.Deep.add_add, Nat.zero_add]
  refine ha.2 j v ?_
  rw [List.getElem?_toArray] at hv ⊢
  show (u8s r.root ++ _)[j]? = _
  rw [List.getElem?_append_left (List.getElem?_eq_some_iff.1 hv).1]
  exact hv
theorem CmAt.below {w w' : World} {p : Addr} {r : CR} (h : CmAt w p r) (hb : Below w.heap.size w w') : CmAt w' p r := ⟨ldOk_below hb h.all, ldOk_below hb h.key, ldOk_below hb h.d, ldOk_below hb h.num, ldOk_below hb h.note⟩
theorem CmAt.at {w w' : World} {bl : List Blk} {p : Addr} {r : CR} (h : CmAt w p r) (hA : At w w' bl) : CmAt w' p r := h.below hA.below
theorem CsR.get {w : World} {s : Sl} {rs : List CR} (h : CsR w s rs) {i : Nat} (hi : i < rs.length) : ∃ r p, rs[i]? = some r ∧ r ∈ rs ∧ s.a = some p ∧ keyOk r.root ∧ KsR w r.d r.ps ∧ CmAt w (p.add (i * 35)) r := by
  have hk : rs[i]? = some rs[i] := List.getElem?_eq_getElem hi
  obtain ⟨p, hp, _⟩ := h.of.cell hk
  have ho := h.ok _ (List.getElem_mem hi)
  exact ⟨_, p, hk, List.getElem_mem hi, hp, ho.1, ho.2, cmAt_of ho.1 (h.of.agg hk hp)⟩

inductive OwnCD : List CR → List Blk → Prop where
  | nil : OwnCD [] []
  | cons {b : CR} {r : List CR} {L1 L2 : List Blk} : OwnKeyS b.d b.ps L1 → OwnCD r L2 → OwnCD (b :: r) (L1 ++ L2)
theorem OwnCD.append {r t : List CR} {L M : List Blk} (h : OwnCD r L) (k : OwnCD t M) : OwnCD (r ++ t) (L ++ M) := by
  induction h with
  | nil => exact k
  | cons h1 _ ih => rw [List.append_assoc]; exact .cons h1 ih
theorem OwnCD.snoc {r : List CR} {b : CR} {L M : List Blk} (h : OwnCD r L) (k : OwnKeyS b.d b.ps M) : OwnCD (r ++ [b]) (L ++ M) := by
  have := h.append (OwnCD.cons k .nil)
  simpa using this
theorem OwnCD.ok {w0 w : World} {ls L : List Blk} {rs : List CR} (h : OwnCD rs L) (hA : At w0 w ls) (hs : L.Sublist ls) : ∀ r ∈ rs, KsR w r.d r.ps := by
  induction h with
  | nil => simp
  | @cons b r L1 L2 h1 h2 ih =>
    intro x hx
    cases hx with
    | head => exact ownS_ks h1.1 hA ((List.sublist_append_left _ _).trans hs) h1.2
    | tail _ hx => exact ih ((List.sublist_append_right _ _).trans hs) x hx
def RdCommitS (w : World) (s : Sl) (X : List PC) : Prop := ∃ rs, rs.map CR.pc = X ∧ CsR w s rs
theorem RdCommitS.at {w w' : World} {ls : List Blk} {s : Sl} {X : List PC} (h : RdCommitS w s X) (hA : At w w' ls) : RdCommitS w' s X := let ⟨rs, h1, h2⟩ := h; ⟨rs, h1, h2.at hA⟩
def RawCommitS (w : World) (s : Sl) (X : List PC) : Prop := ∃ rs, rs.map CR.pc = X ∧ CsR w s rs ∧ s.c ≤ maxLen ∧ ∀ r ∈ rs, RawKeyS w r.d r.ps ∧ r.note.size ≤ maxLen
theorem RawCommitS.rd {w : World} {s : Sl} {X : List PC} (h : RawCommitS w s X) : RdCommitS w s X := let ⟨rs, h1, h2, _⟩ := h; ⟨rs, h1, h2⟩
structure PBk where
  cms : List PC
  maps : List (List PE)
def bkC (s t : Sl) : Array Value := #[.slice s.a s.n s.c, .slice t.a t.n t.c]
theorem bkC_one (s t : Sl) : ∀ v ∈ (bkC s t).toList, oneC v = true := by simp [bkC, oneC]
def RdBook (w : World) (r : Array Value) (b : PBk) : Prop := ∃ s t, r = bkC s t ∧ RdCommitS w s b.cms ∧ RdEntrySS w t b.maps
theorem RdBook.at {w w' : World} {ls : List Blk} {r : Array Value} {b : PBk} (h : RdBook w r b) (hA : At w w' ls) : RdBook w' r b := let ⟨s, t, h1, h2, h3⟩ := h; ⟨s, t, h1, h2.at hA, h3.at hA⟩
def RawBook (w : World) (r : Array Value) (b : PBk) : Prop := ∃ s t, r = bkC s t ∧ RawCommitS w s b.cms ∧ RawEntrySS w t b.maps
theorem RawBook.rd {w : World} {r : Array Value} {b : PBk} (h : RawBook w r b) : RdBook w r b := let ⟨s, t, h1, h2, h3⟩ := h; ⟨s, t, h1, h2.rd, h3.rd⟩
theorem RawBook.sz {w : World} {r : Array Value} {b : PBk} (h : RawBook w r b) : r.size = 2 := by obtain ⟨s, t, rfl, _⟩ := h; rfl
theorem RawBook.one {w : World} {r : Array Value} {b : PBk} (h : RawBook w r b) : ∀ v ∈ r.toList, oneC v = true := by obtain ⟨s, t, rfl, _⟩ := h; exact bkC_one s t
end Go.Proofs.Ytkifkdkjljcclaa
