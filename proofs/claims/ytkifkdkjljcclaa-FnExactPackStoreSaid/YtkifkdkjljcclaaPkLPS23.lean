/- More kinds of values of which laws speak: slices of bytes in slices. The bytes of strings and of the nodes of maps (program). Printed in part by a program of this claim's author (d0.py). The tree over keys: its key, and the blobs of its nodes. The tree of a map: the program. The tree of a map: the reference; which lists of entries are maps: both sides. A blob is put into the reference's store. Printed by a program of this claim's author (s4.py). StoreList: what is answered, and the program. Packs: programs that make data of a base. Plain. -/
import Derived.Laws.IdiomStrings
import Derived.Test.YtkifkdkjljcclaaPkLPS22
import Derived.Test.YtkifkdkjljcclaaPkLPS21
namespace Go.Proofs.Ytkifkdkjljcclaa
open Go.Sx Go.RowKit
open Go.ChangeShapes Go.WideShapes Go.ChangeAt Go.Deep

structure SR where
  d : Sl
  data : List Int
instance : Inhabited SR := ⟨⟨⟨none, 0, 0⟩, []⟩⟩
def SR.cells (r : SR) : List Value := [.slice r.d.a r.d.n r.d.c]
theorem scells_len (r : SR) : r.cells.length = 1 := rfl
structure SsR (w : World) (s : Sl) (rs : List SR) : Prop where
  of : SlOf w s 1 SR.cells rs
  ok : ∀ r ∈ rs, BSl w r.d r.data
theorem SsR.at {w w' : World} {ls : List Blk} {s : Sl} {rs : List SR} (h : SsR w s rs) (hA : At w w' ls) : SsR w' s rs := ⟨h.of.below hA.below, fun r hr => (h.ok r hr).at hA⟩
theorem SsR.n {w : World} {s : Sl} {rs : List SR} (h : SsR w s rs) : s.n = rs.length := h.of.n
theorem SsR.get {w : World} {s : Sl} {rs : List SR} (h : SsR w s rs) {i : Nat} (hi : i < rs.length) : ∃ r p, rs[i]? = some r ∧ r ∈ rs ∧ s.a = some p ∧ BSl w r.d r.data ∧ ldOk w 1 (p.add (i * 1)) .slice r.d := by
  have hk : rs[i]? = some rs[i] := List.getElem?_eq_getElem hi
  obtain ⟨p, hp, _⟩ := h.of.cell hk
  refine ⟨_, p, hk, List.getElem_mem hi, hp, h.ok _ (List.getElem_mem hi), ?_⟩
  have := h.of.fld hk hp (n := 1) 0 (sh := .slice) (y := rs[i].d) rfl (by simp [Sh.emb])
  rwa [Nat.add_zero] at this

inductive OwnSD : List SR → List Blk → Prop where
  | nil : OwnSD [] []
  | cons {b : SR} {r : List SR} {L1 L2 : List Blk} : OwnS ty_uint8 1 b.d (u8s b.data) L1 → OwnSD r L2 → OwnSD (b :: r) (L1 ++ L2)
theorem OwnSD.append {r t : List SR} {L M : List Blk} (h : OwnSD r L) (k : OwnSD t M) : OwnSD (r ++ t) (L ++ M) := by
  induction h with
  | nil => exact k
  | cons h1 _ ih => rw [List.append_assoc]; exact .cons h1 ih
theorem OwnSD.snoc {r : List SR} {b : SR} {L M : List Blk} (h : OwnSD r L) (k : OwnS ty_uint8 1 b.d (u8s b.data) M) : OwnSD (r ++ [b]) (L ++ M) := by
  have := h.append (OwnSD.cons k .nil)
  simpa using this
theorem OwnSD.ok {w0 w : World} {ls L : List Blk} {rs : List SR} (h : OwnSD rs L) (hA : At w0 w ls) (hs : L.Sublist ls) (hb : ∀ x ∈ rs.map SR.data, bytesOk x) : ∀ r ∈ rs, BSl w r.d r.data := by
  induction h with
  | nil => simp
  | @cons b r L1 L2 h1 h2 ih =>
    intro x hx
    cases hx with
    | head => exact ownS_bytes h1 hA ((List.sublist_append_left _ _).trans hs) (hb b.data (by simp))
    | tail _ hx => exact ih ((List.sublist_append_right _ _).trans hs) (fun b hx => hb b (by simp only [List.map_cons, List.mem_cons]; exact .inr hx)) x hx
def OwnSs (s : Sl) (rs : List SR) (L : List Blk) : Prop := ∃ Lb Ld, L = Lb ++ Ld ∧ OwnS ty_sl_uint8 1 s (rs.flatMap SR.cells) Lb ∧ OwnSD rs Ld
theorem OwnSs.rd {w0 w : World} {ls L : List Blk} {s : Sl} {rs : List SR} (h : OwnSs s rs L) (hA : At w0 w (L ++ ls)) (hb : ∀ x ∈ rs.map SR.data, bytesOk x) : SsR w s rs := by
  obtain ⟨Lb, Ld, rfl, h1, h2⟩ := h
  rw [List.append_assoc] at hA
  exact ⟨h1.of hA (List.sublist_append_left _ _) (fun b _ => scells_len b) (by omega), h2.ok hA ((List.sublist_append_left _ _).trans (List.sublist_append_right _ _)) hb⟩
def RdByteSS (w : World) (s : Sl) (X : List (List Int)) : Prop := ∃ rs, rs.map SR.data = X ∧ SsR w s rs
theorem RdByteSS.at {w w' : World} {ls : List Blk} {s : Sl} {X : List (List Int)} (h : RdByteSS w s X) (hA : At w w' ls) : RdByteSS w' s X := let ⟨rs, h1, h2⟩ := h; ⟨rs, h1, h2.at hA⟩
def OwnByteSS (s : Sl) (X : List (List Int)) (L : List Blk) : Prop := ∃ rs, rs.map SR.data = X ∧ OwnSs s rs L ∧ ∀ x ∈ X, bytesOk x
theorem OwnByteSS.rd {w0 w : World} {s : Sl} {X : List (List Int)} {L ls : List Blk} (h : OwnByteSS s X L) (hA : At w0 w (L ++ ls)) : RdByteSS w s X := let ⟨rs, h1, h2, h3⟩ := h; ⟨rs, h1, h2.rd hA (h1 ▸ h3)⟩
theorem OwnByteSS.none : OwnByteSS ⟨none, 0, 0⟩ [] [] := ⟨[], rfl, ⟨[], [], rfl, OwnS.nil _ _, .nil⟩, by simp⟩
def RawByteSS (w : World) (s : Sl) (X : List (List Int)) : Prop := ∃ rs, rs.map SR.data = X ∧ SsR w s rs ∧ s.c ≤ maxLen ∧ ∀ r ∈ rs, r.d.c ≤ maxLen
theorem RawByteSS.rd {w : World} {s : Sl} {X : List (List Int)} (h : RawByteSS w s X) : RdByteSS w s X := let ⟨rs, h1, h2, _⟩ := h; ⟨rs, h1, h2⟩
end Go.Proofs.Ytkifkdkjljcclaa

namespace Go.Proofs.Ytkifkdkjljcclaa
open Go.Sx Go.RowKit

def strL (s : ByteArray) : List Int := s.data.toList.map fun b => (b.toNat : Int)
structure ND where
  l : List Int
  r : List Int
  e : PE
structure ND.ok (n : ND) : Prop where
  l : keyOk n.l
  r : keyOk n.r
  name : n.e.1.size ≤ 24
  value : n.e.2.size ≤ 64
def ndC (n : ND) : List Value := u8s n.l ++ (u8s n.r ++ entC n.e)
def ndB (n : ND) : List Int := n.l ++ (n.r ++ ([(n.e.1.size : Int)] ++ (strL n.e.1 ++ strL n.e.2)))
end Go.Proofs.Ytkifkdkjljcclaa

namespace Go.Proofs.Ytkifkdkjljcclaa
open Go.Sx Go.RowKit

theorem KsR.sub {w : World} {s : Sl} {ks : List (List Int)} (h : KsR w s ks) (l k : Nat) (h1 : l ≤ k) (h2 : k ≤ s.n) : KsR w ⟨if s.c = l then s.a else s.a.map (·.add (l * 32)), k - l, s.c - l⟩ ((ks.drop l).take (k - l)) := ⟨h.of.sub l k h1 h2, fun x hx => h.ok x (List.mem_of_mem_drop (List.mem_of_mem_take hx))⟩

end Go.Proofs.Ytkifkdkjljcclaa

namespace Go.Proofs.Ytkifkdkjljcclaa
open Go.Sx Go.RowKit

def prio (e : PE) : List Int := hashL 4 (strL e.1)
def topAt (ps : List (List Int)) : Nat → Nat
  | 0 => 0
  | j + 1 => if cmpL (ps.getD j []) (ps.getD (topAt ps j) []) > 0 then j else topAt ps j
inductive Tr where
  | nil
  | node (n : ND) (l r : Tr)
def trKey : Tr → List Int
  | .nil => emptyKey
  | .node n _ _ => hashL 5 (ndB n)
def topE (es : List PE) : Nat := topAt (es.map prio) es.length
def entE (es : List PE) (i : Nat) : PE := es.getD i (⟨#[]⟩, ⟨#[]⟩)
def treeF : Nat → List PE → Tr
  | 0, _ => .nil
  | f + 1, es => if es.length = 0 then .nil else .node ⟨trKey (treeF f (es.take (topE es))), trKey (treeF f (es.drop (topE es + 1))), entE es (topE es)⟩ (treeF f (es.take (topE es))) (treeF f (es.drop (topE es + 1)))
def trC (n : ND) (pl pr : Option Addr) : Array Value := (ndC n ++ [Value.pointer pl, Value.pointer pr]).toArray
inductive RdTr (w : World) : Option Addr → Tr → Prop where
  | nil : RdTr w none .nil
  | node {a : Addr} {n : ND} {l r : Tr} {pl pr : Option Addr} : n.ok → ldOk w 68 a .agg (trC n pl pr) → RdTr w pl l → RdTr w pr r → RdTr w (some a) (.node n l r)
theorem RdTr.bel {w w' : World} {o : Option Addr} {T : Tr} (h : RdTr w o T) (hb : Below w.heap.size w w') : RdTr w' o T := by
  induction h with
  | nil => exact .nil
  | node hn hl _ _ i1 i2 => exact .node hn (ldOk_below hb hl) i1 i2
theorem RdTr.at {w w' : World} {ls : List Blk} {o : Option Addr} {T : Tr} (h : RdTr w o T) (hA : At w w' ls) : RdTr w' o T := h.bel hA.below
theorem EsR.sub {w : World} {s : Sl} {es : List PE} (h : EsR w s es) (l k : Nat) (h1 : l ≤ k) (h2 : k ≤ s.n) : EsR w ⟨if s.c = l then s.a else s.a.map (·.add (l * 2)), k - l, s.c - l⟩ ((es.drop l).take (k - l)) := SlOf.sub h l k h1 h2

end Go.Proofs.Ytkifkdkjljcclaa

namespace Go.Proofs.Ytkifkdkjljcclaa
open Go.Sx Go.RowKit

def goodE (es : List PE) (j : Nat) : Bool := (nameOk (entE es j).1.size && decide ((entE es j).2.size ≤ 64)) && (decide (j = 0) || Op.bytesLess (entE es (j - 1)).1.toList (entE es j).1.toList)
def okE (es : List PE) : Prop := (∀ j, j < es.length → goodE es j = true) ∧ es.length ≤ 64
instance (es : List PE) : Decidable (okE es) := inferInstanceAs (Decidable ((∀ j, j < es.length → goodE es j = true) ∧ es.length ≤ 64))
end Go.Proofs.Ytkifkdkjljcclaa

namespace Go.Proofs.Ytkifkdkjljcclaa
open Go.Sx Go.RowKit

theorem SpecO.hdr {b : Nat} {ks : List (List Int)} {bs : List BR} {L : List Blk} (h : SpecO b ks bs L) : ∃ sk sb Lb Lk, L = (b, #[.slice sb.a sb.n sb.c, .slice sk.a sk.n sk.c], ty_spec_l05Store) :: (Lb ++ Lk) ∧ OwnS ty_impl_Key 32 sk (ks.flatMap u8s) Lk ∧ OwnS ty_impl_Blob 2 sb (bs.flatMap BR.cells) Lb := by
  obtain ⟨sk, sb, Lk, Lb, h1, h2, h3⟩ := h
  exact ⟨sk, sb, Lb, Lk, h1, h2, h3⟩

end Go.Proofs.Ytkifkdkjljcclaa

namespace Go.Proofs.Ytkifkdkjljcclaa
open Go.Sx Go.RowKit

def shortX (X : List (List Int)) : Prop := ∀ c ∈ X, c.length ≤ 1024
instance (X : List (List Int)) : Decidable (shortX X) := inferInstanceAs (Decidable (∀ c ∈ X, c.length ≤ 1024))
end Go.Proofs.Ytkifkdkjljcclaa

namespace Go.Proofs.Ytkifkdkjljcclaa
open Go.Sx Go.RowKit

def matchN : Nat → List Int → List Int → Nat
  | f + 1, x :: a, y :: b => if x = y then matchN f a b + 1 else 0
  | _, _, _ => 0
theorem matchN_le : ∀ (f : Nat) (a b : List Int), matchN f a b ≤ f ∧ matchN f a b ≤ a.length ∧ matchN f a b ≤ b.length ∧ a.take (matchN f a b) = b.take (matchN f a b)
  | 0, a, b => by simp [matchN]
  | f + 1, [], b => by simp [matchN]
  | f + 1, x :: a, [] => by simp [matchN]
  | f + 1, x :: a, y :: b => by
    unfold matchN
    split
    · rename_i h
      obtain ⟨h1, h2, h3, h4⟩ := matchN_le f a b
      subst h
      refine ⟨by omega, by simp; omega, by simp; omega, ?_⟩
      rw [List.take_succ_cons, List.take_succ_cons, h4]
    · simp
theorem matchN_stop : ∀ (n f : Nat) (a b : List Int), n ≤ f → n ≤ a.length → n ≤ b.length → a.take n = b.take n → (n = f ∨ n = a.length ∨ n = b.length ∨ a[n]? ≠ b[n]?) → matchN f a b = n
  | 0, f, a, b, _, _, _, _, h => by
    cases f with
    | zero => simp [matchN]
    | succ f =>
      cases a with
      | nil => simp [matchN]
      | cons x a =>
        cases b with
        | nil => simp [matchN]
        | cons y b =>
          unfold matchN
          rw [if_neg]
          intro hxy
          subst hxy
          simp at h
  | n + 1, 0, _, _, h, _, _, _, _ => by omega
  | n + 1, f + 1, [], _, _, h, _, _, _ => by simp at h
  | n + 1, f + 1, x :: a, [], _, _, h, _, _ => by simp at h
  | n + 1, f + 1, x :: a, y :: b, h1, h2, h3, h4, h5 => by
    rw [List.take_succ_cons, List.take_succ_cons] at h4
    injection h4 with h6 h7
    subst h6
    unfold matchN
    rw [if_pos rfl, matchN_stop n f a b (by omega) (by simpa using h2) (by simpa using h3) h7 (by simpa using h5)]
def bestN (base d : List Int) : Nat → Nat × Nat
  | 0 => (0, 0)
  | i + 1 => if (bestN base d i).1 < matchN 255 (base.drop i) d then (matchN 255 (base.drop i) d, i) else bestN base d i
theorem bestN_ok (base d : List Int) : ∀ i, i ≤ base.length → (bestN base d i).1 ≤ 255 ∧ (bestN base d i).1 ≤ d.length ∧ (bestN base d i).2 ≤ i ∧ (bestN base d i).2 + (bestN base d i).1 ≤ base.length ∧ (base.drop (bestN base d i).2).take (bestN base d i).1 = d.take (bestN base d i).1
  | 0, _ => by simp [bestN]
  | i + 1, h => by
    have ih := bestN_ok base d i (by omega)
    unfold bestN
    split
    · obtain ⟨h1, h2, h3, h4⟩ := matchN_le 255 (base.drop i) d
      rw [List.length_drop] at h2
      exact ⟨h1, h3, by dsimp only; omega, by dsimp only; omega, h4⟩
    · exact ⟨ih.1, ih.2.1, by omega, ih.2.2.2.1, ih.2.2.2.2⟩
def plainGo : Nat → List Int → List Int
  | 0, _ => []
  | f + 1, l => if l = [] then [] else [0, ((min 255 l.length : Nat) : Int)] ++ l.take 255 ++ plainGo f (l.drop 255)
def plainB (l : List Int) : List Int := plainGo l.length l
theorem plainGo_fuel : ∀ (f g : Nat) (l : List Int), l.length ≤ f → l.length ≤ g → plainGo f l = plainGo g l
  | 0, 0, _, _, _ => rfl
  | 0, g + 1, l, h, _ => by
    have : l = [] := List.eq_nil_of_length_eq_zero (by omega)
    subst this
    rfl
  | f + 1, 0, l, _, h => by
    have : l = [] := List.eq_nil_of_length_eq_zero (by omega)
    subst this
    rfl
  | f + 1, g + 1, l, h1, h2 => by
    unfold plainGo
    split
    · rfl
    · rename_i hne
      have : 0 < l.length := by cases l with | nil => exact absurd rfl hne | cons => simp
      rw [plainGo_fuel f g (l.drop 255) (by rw [List.length_drop]; omega) (by rw [List.length_drop]; omega)]
theorem plainB_nil : plainB [] = [] := rfl
theorem plainB_step {l : List Int} (h : l ≠ []) : plainB l = [0, ((min 255 l.length : Nat) : Int)] ++ l.take 255 ++ plainB (l.drop 255) := by
  have hl : 0 < l.length := by cases l with | nil => exact absurd rfl h | cons => simp
  unfold plainB
  obtain ⟨n, hn⟩ : ∃ n, l.length = n + 1 := ⟨l.length - 1, by omega⟩
  rw [hn]
  conv => lhs; unfold plainGo
  rw [if_neg h, hn, plainGo_fuel n _ (l.drop 255) (by rw [List.length_drop]; omega) (Nat.le_refl _)]
def deltaGo (base : List Int) : Nat → List Int → List Int → List Int → List Int
  | 0, out, held, _ => out ++ plainB held
  | _ + 1, out, held, [] => out ++ plainB held
  | f + 1, out, held, x :: r =>
    if (bestN base (x :: r) base.length).1 < 8 then deltaGo base f out (held ++ [x]) r
    else deltaGo base f (out ++ plainB held ++ [1, ((bestN base (x :: r) base.length).2 : Int) % 256, ((bestN base (x :: r) base.length).2 : Int) / 256, ((bestN base (x :: r) base.length).1 : Int)]) [] ((x :: r).drop (bestN base (x :: r) base.length).1)
def deltaB (base data : List Int) : List Int := deltaGo base data.length [] [] data
theorem deltaGo_fuel (base : List Int) : ∀ (f g : Nat) (out held d : List Int), d.length ≤ f → d.length ≤ g → deltaGo base f out held d = deltaGo base g out held d
  | 0, 0, _, _, _, _, _ => rfl
  | 0, g + 1, out, held, d, h, _ => by
    have : d = [] := List.eq_nil_of_length_eq_zero (by omega)
    subst this
    rfl
  | f + 1, 0, out, held, d, _, h => by
    have : d = [] := List.eq_nil_of_length_eq_zero (by omega)
    subst this
    rfl
  | f + 1, g + 1, out, held, [], _, _ => rfl
  | f + 1, g + 1, out, held, x :: r, h1, h2 => by
    unfold deltaGo
    rw [List.length_cons] at h1 h2
    split
    · exact deltaGo_fuel base f g _ _ r (by omega) (by omega)
    · exact deltaGo_fuel base f g _ _ _ (by rw [List.length_drop, List.length_cons]; omega) (by rw [List.length_drop, List.length_cons]; omega)

def stepP (base p : List Int) : Option (List Int × List Int) :=
  if p.getD 0 0 = 0 ∧ 1 < p.length ∧ 0 < p.getD 1 0 ∧ 2 + (p.getD 1 0).toNat ≤ p.length then some ((p.drop 2).take (p.getD 1 0).toNat, p.drop (2 + (p.getD 1 0).toNat))
  else if p.getD 0 0 = 1 ∧ 3 < p.length ∧ 0 < p.getD 3 0 ∧ (p.getD 1 0 + 256 * p.getD 2 0).toNat + (p.getD 3 0).toNat ≤ base.length then
    some ((base.drop (p.getD 1 0 + 256 * p.getD 2 0).toNat).take (p.getD 3 0).toNat, p.drop 4)
  else none
inductive Makes (base : List Int) : List Int → List Int → Prop
  | nil : Makes base [] []
  | step {p m r d : List Int} : p ≠ [] → stepP base p = some (m, r) → Makes base r d → Makes base p (m ++ d)
theorem Makes.append {base p q d e : List Int} (h : Makes base p d) (g : Makes base q e) (hstep : ∀ p m r, p ≠ [] → stepP base p = some (m, r) → stepP base (p ++ q) = some (m, r ++ q)) : Makes base (p ++ q) (d ++ e) := by
  induction h with
  | nil => exact g
  | @step p m r d hne hs _ ih =>
    rw [List.append_assoc]
    exact .step (by simp [hne]) (hstep p m r hne hs) ih
theorem plainB_ok : ∀ (n : Nat) (l : List Int), l.length ≤ n → bytesOk l → bytesOk (plainB l)
  | 0, l, h, _ => by
    have : l = [] := List.eq_nil_of_length_eq_zero (by omega)
    subst this
    intro b hb
    cases hb
  | n + 1, l, h, hl => by
    by_cases hn : l = []
    · subst hn
      intro b hb
      cases hb
    rw [plainB_step hn]
    refine bytesOk.append (bytesOk.append (fun b hb => ?_) fun b hb => hl b (List.mem_of_mem_take hb)) (plainB_ok n _ (by rw [List.length_drop]; omega) fun b hb => hl b (List.mem_of_mem_drop hb))
    simp only [List.mem_cons, List.not_mem_nil, or_false] at hb
    omega
theorem deltaGo_ok (base : List Int) (hb : base.length ≤ 1024) : ∀ (f : Nat) (out held d : List Int), bytesOk out → bytesOk held → bytesOk d → bytesOk (deltaGo base f out held d)
  | 0, out, held, d, h1, h2, _ => h1.append (plainB_ok _ _ (Nat.le_refl _) h2)
  | f + 1, out, held, [], h1, h2, _ => h1.append (plainB_ok _ _ (Nat.le_refl _) h2)
  | f + 1, out, held, x :: r, h1, h2, h3 => by
    unfold deltaGo
    obtain ⟨b1, b2, b3, b4, b5⟩ := bestN_ok base (x :: r) base.length (Nat.le_refl _)
    split
    · exact deltaGo_ok base hb f _ _ r h1 (h2.append fun b hb => by rw [List.mem_singleton.1 hb]; exact h3 x (by simp)) fun b hb => h3 b (by simp [hb])
    · refine deltaGo_ok base hb f _ _ _ ((h1.append (plainB_ok _ _ (Nat.le_refl _) h2)).append fun b hb => ?_) (fun b hb => by cases hb) fun b hb => h3 b (List.mem_of_mem_drop hb)
      simp only [List.mem_cons, List.not_mem_nil, or_false] at hb
      omega
theorem deltaB_ok {base data : List Int} (hb : base.length ≤ 1024) (hd : bytesOk data) : bytesOk (deltaB base data) := deltaGo_ok base hb _ _ _ _ (fun b hb => by cases hb) (fun b hb => by cases hb) hd
theorem plainB_len : ∀ (n : Nat) (l : List Int), l.length ≤ n → (plainB l).length ≤ 3 * l.length
  | 0, l, h => by
    have : l = [] := List.eq_nil_of_length_eq_zero (by omega)
    subst this
    simp [plainB_nil]
  | n + 1, l, h => by
    by_cases hn : l = []
    · subst hn; simp [plainB_nil]
    have h0 : 0 < l.length := by cases l with | nil => exact absurd rfl hn | cons => simp
    have ih := plainB_len n (l.drop 255) (by rw [List.length_drop]; omega)
    rw [plainB_step hn]
    simp only [List.length_append, List.length_cons, List.length_nil, List.length_take, List.length_drop] at ih ⊢
    omega
theorem deltaGo_len (base : List Int) : ∀ (f : Nat) (out held d : List Int), (deltaGo base f out held d).length ≤ out.length + 3 * held.length + 4 * d.length
  | 0, out, held, d => by
    have := plainB_len _ held (Nat.le_refl _)
    show (out ++ plainB held).length ≤ _
    rw [List.length_append]
    omega
  | f + 1, out, held, [] => by
    have := plainB_len _ held (Nat.le_refl _)
    show (out ++ plainB held).length ≤ _
    rw [List.length_append]
    simp
    omega
  | f + 1, out, held, x :: r => by
    unfold deltaGo
    split
    · have := deltaGo_len base f out (held ++ [x]) r
      simp only [List.length_append, List.length_cons, List.length_nil] at this ⊢
      omega
    · rename_i h8
      have hp := plainB_len _ held (Nat.le_refl _)
      have := deltaGo_len base f (out ++ plainB held ++ [1, ((bestN base (x :: r) base.length).2 : Int) % 256, ((bestN base (x :: r) base.length).2 : Int) / 256, ((bestN base (x :: r) base.length).1 : Int)]) [] ((x :: r).drop (bestN base (x :: r) base.length).1)
      simp only [List.length_append, List.length_cons, List.length_nil, List.length_drop] at this ⊢
      omega
theorem deltaB_len (base data : List Int) : (deltaB base data).length ≤ 4 * data.length := by
  have := deltaGo_len base data.length [] [] data
  simpa [deltaB] using this
end Go.Proofs.Ytkifkdkjljcclaa
