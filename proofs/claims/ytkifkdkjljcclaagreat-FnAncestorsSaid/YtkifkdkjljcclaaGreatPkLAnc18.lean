/- A blob is put into the program's store with its keys. Printed by a program of this claim's author (s2.py). The laws' own source of test data: bytes picked, keys. More kinds of values of which laws speak: slices of entries. More kinds of values of which laws speak: slices of slices of entries. More kinds of values of which laws speak: slices of leases. -/
import Derived.ChangeMaps5
import Derived.Test.YtkifkdkjljcclaaGreatPkLAnc17
namespace Go.Proofs.YtkifkdkjljcclaaGreat
open Go.Sx Go.RowKit

def insAt {α : Type} (i : Nat) (x : α) (l : List α) : List α := l.take i ++ [x] ++ l.drop i
theorem mem_insAt {α : Type} {i : Nat} {x y : α} {l : List α} (h : y ∈ insAt i x l) : y = x ∨ y ∈ l := by
  simp only [insAt, List.mem_append, List.mem_singleton] at h
  rcases h with (h | h) | h
  · exact .inr (List.mem_of_mem_take h)
  · exact .inl h
  · exact .inr (List.mem_of_mem_drop h)
theorem insAt_len {α : Type} {i : Nat} {x : α} {l : List α} (h : i ≤ l.length) : (insAt i x l).length = l.length + 1 := by simp [insAt]; omega

theorem ltL_of_not {a b : List Int} (h : ¬ ltL a b) (hne : a ≠ b) : ltL b a := by
  unfold ltL at *
  have := cmpL_range a b
  have h0 : cmpL a b ≠ 0 := fun hh => hne (cmpL_eq.1 hh)
  rw [cmpL_neg a b]
  omega
theorem asc_insAt {ks : List (List Int)} {k : List Int} (h : Asc ks) (hk : k ∉ ks) : Asc (insAt (posK ks k) k ks) := by
  have hl : ∀ x ∈ ks.take (posK ks k), ltL x k := by
    intro x hx
    obtain ⟨i, hi⟩ := List.mem_iff_getElem?.1 hx
    rw [List.getElem?_take] at hi
    split at hi
    · exact (posK_lt h hi).1 (by assumption)
    · cases hi
  have hr : ∀ x ∈ ks.drop (posK ks k), ltL k x := by
    intro x hx
    obtain ⟨i, hi⟩ := List.mem_iff_getElem?.1 hx
    rw [List.getElem?_drop] at hi
    refine ltL_of_not (fun hh => ?_) (fun hh => hk (hh ▸ List.mem_of_getElem? hi))
    have := (posK_lt h hi).2 hh
    omega
  unfold Asc insAt
  rw [List.append_assoc]
  refine List.pairwise_append.2 ⟨List.Pairwise.sublist (List.take_sublist _ _) h, List.pairwise_cons.2 ⟨hr, List.Pairwise.sublist (List.drop_sublist _ _) h⟩, ?_⟩
  intro a ha b hb
  rcases List.mem_cons.1 hb with rfl | hb
  · exact hl a ha
  · exact ltL_trans (hl a ha) (hr b hb)

def zero32 : List Int := List.replicate 32 0
theorem zero32_ok : keyOk zero32 := ⟨rfl, by intro b hb; simp [zero32] at hb; omega⟩

end Go.Proofs.YtkifkdkjljcclaaGreat

namespace Go.Proofs.YtkifkdkjljcclaaGreat
open Go.Sx Go.RowKit

theorem run_rem {P : Program} {t : TypeId} {x y : Operand} {k : IntKind} {a b : Int} (hb : b ≠ 0) (w : World) : (eqB .rem t x y (.int k a) (.int k b)).run P w = .ok (.int k (a.tmod b)) w := by
  simp [eqB, eqGuard, binOp, Op.intDiv, hb]

theorem and255 (x : Int) : 0 ≤ bitsI .and .u64 x 255 ∧ bitsI .and .u64 x 255 ≤ 255 := by
  have h : (BitVec.ofInt (IntKind.bits .u64) x &&& BitVec.ofInt (IntKind.bits .u64) 255).toNat ≤ 255 := by
    rw [BitVec.toNat_and]
    exact Nat.le_trans Nat.and_le_right (by decide)
  have e : bitsI .and .u64 x 255 = IntKind.wrap .u64 ((BitVec.ofInt (IntKind.bits .u64) x &&& BitVec.ofInt (IntKind.bits .u64) 255).toNat : Int) := rfl
  rw [e]
  generalize (BitVec.ofInt (IntKind.bits .u64) x &&& BitVec.ofInt (IntKind.bits .u64) 255).toNat = n at h
  rw [wrapu64 (by omega) (by omega)]
  omega

abbrev srcC (sd : Sl) (a st : Int) : Array Value := #[.slice sd.a sd.n sd.c, .int .i64 a, .int .u64 st]
def Src (w0 : World) (b : Nat) (sd : Sl) (rest : List Blk) (A : Int) (w : World) : Prop := ∃ a st, 0 ≤ a ∧ a ≤ A ∧ At w0 w ((b, srcC sd a st, ty_spec_l00Src) :: rest)
theorem Src.mono {w0 w : World} {b : Nat} {sd : Sl} {rest : List Blk} {A A' : Int} (h : Src w0 b sd rest A w) (hA : A ≤ A') : Src w0 b sd rest A' w := let ⟨a, st, h0, h1, h2⟩ := h; ⟨a, st, h0, Int.le_trans h1 hA, h2⟩

theorem c_next {w0 w : World} {b : Nat} {sd : Sl} {d : List Int} {rest : List Blk} {A : Int} (hS : Src w0 b sd rest A w) (hd : SlAt w0 sd 1 (u8s d)) (hb : bytesOk d) (hA : A ≤ 1099511627776) :
    Calls Tryz.prog n_ptr_spec_l00Src_next #[.pointer (some ⟨b, 0, none⟩)] w fun e w' => ∃ v, e = .returned v ∧ ∃ r, v = .int .i64 r ∧ 0 ≤ r ∧ r ≤ 255 ∧ Src w0 b sd rest (A + 1) w' := ptr_spec_l00Src_next_calls _ (by
  obtain ⟨a, st, h0, h1, h⟩ := hS
  have hn := sl_len hd
  unfold ptr_spec_l00Src_next
  refine r_join (σ := Int) (fun s w' => (0 ≤ s ∧ s ≤ 255) ∧ At w0 w' ((b, srcC sd a st, ty_spec_l00Src) :: rest)) (fun s w1 hs => ?_) ?_
  · obtain ⟨⟨hs0, hs1⟩, h⟩ := hs
    refine r_any fun _ => ?_
    refine r_ld h 0 (o := 1) rfl (add_lit _ _ _) a (by simp [Sh.emb]) rfl ?_
    rw [w64 (n := a + 1) (by omega) (by omega)]
    refine r_st h 0 (o := 1) rfl (add_lit _ _ _) (by simp) rfl fun w2 h => ?_
    refine r_ld h 0 (o := 2) rfl (add_lit _ _ _) st (by simp [Sh.emb]) rfl ?_
    refine r_st h 0 (o := 2) rfl (add_lit _ _ _) (by simp) rfl fun w3 h => ?_
    generalize IntKind.wrap .u64 ((IntKind.wrap .u64 ((IntKind.wrap .u64 (st * 6364136223846793005)) + (IntKind.wrap .u64 s))) + 1442695040888963407) = st' at h
    have h : At w0 w3 ((b, srcC sd (a + 1) st', ty_spec_l00Src) :: rest) := h
    refine r_draw h fun w4 h => ?_
    refine r_ld h 0 (o := 1) rfl (add_lit _ _ _) (a + 1) (by simp [Sh.emb]) rfl ?_
    refine r_ld h 0 (o := 0) rfl (add_lit _ _ _) sd (by simp [Sh.emb]) rfl ?_
    refine r_if (a + 1 ≤ (sd.n : Int)) rfl (fun hle => ?_) (fun hgt => ?_)
    · exact r_retR ⟨s, rfl, hs0, hs1, a + 1, st', by omega, by omega, h⟩
    · refine r_ld h 0 (o := 2) rfl (add_lit _ _ _) st' (by simp [Sh.emb]) rfl ?_
      have h255 := and255 (Int.fdiv st' (2 ^ 40))
      rw [w64 (by omega) (by omega)]
      exact r_retR ⟨_, rfl, h255.1, h255.2, a + 1, st', by omega, by omega, h⟩
  · refine r_draw h fun w1 h => ?_
    refine r_ld h 0 (o := 1) rfl (add_lit _ _ _) a (by simp [Sh.emb]) rfl ?_
    refine r_ld h 0 (o := 0) rfl (add_lit _ _ _) sd (by simp [Sh.emb]) rfl ?_
    refine r_if (a < (sd.n : Int)) rfl (fun hlt => ?_) (fun hge => ?_)
    · refine r_draw h fun w2 h => ?_
      refine r_ld h 0 (o := 0) rfl (add_lit _ _ _) sd (by simp [Sh.emb]) rfl ?_
      refine r_ld h 0 (o := 1) rfl (add_lit _ _ _) a (by simp [Sh.emb]) rfl ?_
      obtain ⟨p, hp, hc⟩ := sl_cell hd (i := a.toNat) (by omega)
      refine r_ix p hp (by omega) (by omega) ?_
      refine r_ldO h (d.getD a.toNat 0) hc (by simp) ?_
      have hbd := hb.get a.toNat
      rw [w64 (by omega) (by omega)]
      exact ⟨_, rfl, ⟨hbd.1, by omega⟩, h⟩
    · exact ⟨0, rfl, ⟨by omega, by omega⟩, h⟩)

theorem c_pick {w0 w : World} {b : Nat} {sd : Sl} {d : List Int} {rest : List Blk} {A : Int} (N : Int) (hS : Src w0 b sd rest A w) (hd : SlAt w0 sd 1 (u8s d)) (hb : bytesOk d) (hA : A ≤ 1099511627774) (hN : 1 ≤ N) (hN2 : N ≤ 1048576) :
    Calls Tryz.prog n_ptr_spec_l00Src_pick #[.pointer (some ⟨b, 0, none⟩), .int .i64 N] w fun e w' => ∃ v, e = .returned v ∧ ∃ r, v = .int .i64 r ∧ 0 ≤ r ∧ r < N ∧ Src w0 b sd rest (A + 2) w' := ptr_spec_l00Src_pick_calls _ _ (by
  unfold ptr_spec_l00Src_pick
  have htm : ∀ x : Int, 0 ≤ x → x ≤ 16777216 → 1 < N → Int.tmod x N = x % N ∧ 0 ≤ x % N ∧ x % N < N := fun x h0 h1 h2 => by
    have e1 := Int.emod_nonneg x (show N ≠ 0 by omega)
    have e2 := Int.emod_lt_of_pos x (show 0 < N by omega)
    rw [Int.tmod_eq_emod_of_nonneg h0]
    exact ⟨rfl, e1, e2⟩
  refine r_if (N ≤ 1) rfl (fun hle => r_retR ⟨0, rfl, by omega, by omega, hS.mono (by omega)⟩) (fun hgt => ?_)
  refine r_callR (c_next hS hd hb (by omega)) ?_
  rintro v w1 ⟨r, rfl, hr0, hr1, hS⟩
  refine ⟨r, rfl, ?_⟩
  refine r_if (N > 200) rfl (fun hbig => ?_) (fun hsm => ?_)
  · refine r_callR (c_next hS hd hb (by omega)) ?_
    rintro v w2 ⟨r2, rfl, hs0, hs1, hS⟩
    refine ⟨r2, rfl, ?_⟩
    rw [w64 (n := r * 256) (by omega) (by omega), w64 (n := r * 256 + r2) (by omega) (by omega)]
    refine r_pur _ (fun w' => run_rem (by omega) w') ?_
    obtain ⟨e1, e2, e3⟩ := htm (r * 256 + r2) (by omega) (by omega) (by omega)
    rw [e1]
    exact r_retR ⟨_, rfl, e2, e3, hS.mono (by omega)⟩
  · refine r_pur _ (fun w' => run_rem (by omega) w') ?_
    obtain ⟨e1, e2, e3⟩ := htm r (by omega) (by omega) (by omega)
    rw [e1]
    exact r_retR ⟨_, rfl, e2, e3, hS.mono (by omega)⟩)

theorem c_one {w0 w : World} {b : Nat} {sd : Sl} {d : List Int} {rest : List Blk} {A : Int} (N : Int) (hS : Src w0 b sd rest A w) (hd : SlAt w0 sd 1 (u8s d)) (hb : bytesOk d) (hA : A ≤ 1099511627774) (hN : 1 ≤ N) (hN2 : N ≤ 1048576) :
    Calls Tryz.prog n_ptr_spec_l00Src_one #[.pointer (some ⟨b, 0, none⟩), .int .i64 N] w fun e w' => ∃ v, e = .returned v ∧ ∃ r, v = .bool r ∧ Src w0 b sd rest (A + 2) w' := ptr_spec_l00Src_one_calls _ _ (by
  unfold ptr_spec_l00Src_one
  refine r_callR (c_pick N hS hd hb hA hN hN2) ?_
  rintro v w1 ⟨r, rfl, hr0, hr1, hS⟩
  exact ⟨r, rfl, r_retR ⟨_, rfl, hS⟩⟩)

def SrcO (w0 : World) (b : Nat) (sd : Sl) (rest : List Blk) (A : Int) (e z : Nat) (s : Sl) (xs : List Value) (w : World) : Prop := ∃ a st, 0 ≤ a ∧ a ≤ A ∧ SlO w0 w ((b, srcC sd a st, ty_spec_l00Src) :: rest) e z s xs
theorem SrcO.mono {w0 w : World} {b : Nat} {sd : Sl} {rest : List Blk} {A A' : Int} {e z : Nat} {s : Sl} {xs : List Value} (h : SrcO w0 b sd rest A e z s xs w) (hA : A ≤ A') : SrcO w0 b sd rest A' e z s xs w := let ⟨a, st, h0, h1, h2⟩ := h; ⟨a, st, h0, Int.le_trans h1 hA, h2⟩

theorem bytesOk.set {l : List Int} (h : bytesOk l) (i : Nat) {v : Int} (hv : 0 ≤ v ∧ v < 256) : bytesOk (l.set i v) := fun b hb => by
  rcases List.mem_or_eq_of_mem_set hb with h1 | h1
  · exact h b h1
  · rw [h1]; exact hv

theorem run_src (s : Sl) (w : World) : (Instr.build ty_spec_l00Src #[(0, (.slice s.a s.n s.c))]).run Tryz.prog w = .ok (.agg (srcC s 0 0)) w := by kernel_rfl

theorem c_l00From (sd : Sl) (w : World) : Calls Tryz.prog n_spec_l00From #[.slice sd.a sd.n sd.c] w fun e w' => ∃ v, e = .returned v ∧ ∃ b, v = .pointer (some ⟨b, 0, none⟩) ∧ Src w b sd [] 0 w' := spec_l00From_calls _ (by
  unfold spec_l00From
  refine r_pur _ (fun w' => run_src sd w') ?_
  refine r_new (At.refl w) fun b w1 h => ?_
  exact r_retR ⟨b, rfl, 0, 0, by omega, by omega, h⟩)

end Go.Proofs.YtkifkdkjljcclaaGreat

namespace Go.Proofs.YtkifkdkjljcclaaGreat
open Go.Sx Go.RowKit
open Go.ChangeShapes Go.WideShapes Go.ChangeAt Go.Deep

abbrev PE := ByteArray × ByteArray
def entC (l : PE) : List Value := [.string l.1, .string l.2]
theorem entC_len (l : PE) : (entC l).length = 2 := rfl
theorem entC_one (l : PE) : ∀ v ∈ entC l, oneC v = true := by
  intro v hv
  unfold entC at hv
  simp only [List.mem_cons, List.not_mem_nil, or_false] at hv
  rcases hv with rfl | rfl <;> rfl
theorem entCs_one (es : List PE) : ∀ v ∈ es.flatMap entC, oneC v = true := fun v hv => by
  obtain ⟨e, _, he⟩ := List.mem_flatMap.1 hv
  exact entC_one e v he
abbrev EsR (w : World) (s : Sl) (es : List PE) : Prop := SlOf w s 2 entC es
theorem EsR.get {w : World} {s : Sl} {es : List PE} (h : EsR w s es) {i : Nat} (hi : i < es.length) : ∃ l p, es[i]? = some l ∧ l ∈ es ∧ s.a = some p ∧ ldOk w 2 (p.add (i * 2)) .agg (entC l).toArray ∧ ldOk w 1 ((p.add (i * 2)).add 0) .str l.1 ∧ ldOk w 1 ((p.add (i * 2)).add 1) .str l.2 := by
  have hk : es[i]? = some es[i] := List.getElem?_eq_getElem hi
  obtain ⟨p, hp, _⟩ := h.cell hk
  have ha := h.agg hk hp
  exact ⟨_, p, hk, List.getElem_mem hi, hp, ha, ha.2 0 _ rfl, ha.2 1 _ rfl⟩

def RdEntryS (w : World) (s : Sl) (es : List PE) : Prop := EsR w s es
theorem RdEntryS.at {w w' : World} {bl : List Blk} {s : Sl} {es : List PE} (h : RdEntryS w s es) (hA : At w w' bl) : RdEntryS w' s es := h.below hA.below
def OwnEntryS (s : Sl) (es : List PE) (L : List Blk) : Prop := OwnS ty_impl_Entry 2 s (es.flatMap entC) L
theorem OwnEntryS.none : OwnEntryS ⟨none, 0, 0⟩ [] [] := OwnS.nil _ _
theorem OwnEntryS.rd {w0 w : World} {s : Sl} {es : List PE} {L bl : List Blk} (h : OwnEntryS s es L) (hA : At w0 w (L ++ bl)) : RdEntryS w s es := OwnS.of h hA (List.sublist_append_left _ _) (fun l _ => entC_len l) (by omega)
theorem OwnEntryS.n {s : Sl} {es : List PE} {L : List Blk} (h : OwnEntryS s es L) : s.n = es.length := by have := h.1; rw [flatMap_length (z := 2) (fun l _ => entC_len l)] at this; omega
def RawEntryS (w : World) (s : Sl) (es : List PE) : Prop := EsR w s es ∧ s.c ≤ maxLen ∧ ∀ e ∈ es, e.1.size ≤ maxLen ∧ e.2.size ≤ maxLen
theorem RawEntryS.rd {w : World} {s : Sl} {es : List PE} (h : RawEntryS w s es) : RdEntryS w s es := h.1
def sumE (es : List PE) : Nat := (es.map fun e => e.1.size + e.2.size).sum
def sizeEntryS (es : List PE) : Nat := es.length + sumE es
theorem T_sl_Entry : SlT Tryz.prog ty_sl_impl_Entry ty_impl_Entry 2 32 := slT_of (by kernel_rfl)

end Go.Proofs.YtkifkdkjljcclaaGreat

namespace Go.Proofs.YtkifkdkjljcclaaGreat
open Go.Sx Go.RowKit
open Go.ChangeShapes Go.WideShapes Go.ChangeAt Go.Deep

def sumF {α : Type} (f : α → Nat) (X : List α) : Nat := (X.map f).sum
theorem sumF_cons {α : Type} (f : α → Nat) (x : α) (X : List α) : sumF f (x :: X) = f x + sumF f X := by simp [sumF]
theorem sumF_append {α : Type} (f : α → Nat) (X Y : List α) : sumF f (X ++ Y) = sumF f X + sumF f Y := by simp [sumF]
theorem sumF_one {α : Type} (f : α → Nat) (x : α) : sumF f [x] = f x := by simp [sumF]
theorem sumF_take {α : Type} (f : α → Nat) {X : List α} {j : Nat} {x : α} (h : X[j]? = some x) : sumF f (X.take (j + 1)) = sumF f (X.take j) + f x := by rw [take_succ_get h, sumF_append, sumF_one]
theorem sumF_le {α : Type} (f : α → Nat) (X : List α) (j : Nat) : sumF f (X.take j) ≤ sumF f X := by
  have := congrArg (sumF f) (List.take_append_drop j X)
  rw [sumF_append] at this
  omega
theorem sumF_get {α : Type} (f : α → Nat) {X : List α} {j : Nat} {x : α} (h : X[j]? = some x) : f x ≤ sumF f X := by
  have h1 := sumF_take f h
  have h2 := sumF_le f X (j + 1)
  omega

structure ER where
  d : Sl
  es : List PE
instance : Inhabited ER := ⟨⟨⟨none, 0, 0⟩, []⟩⟩
def ER.cells (r : ER) : List Value := [.slice r.d.a r.d.n r.d.c]
theorem ercells_len (r : ER) : r.cells.length = 1 := rfl
structure EssR (w : World) (s : Sl) (rs : List ER) : Prop where
  of : SlOf w s 1 ER.cells rs
  ok : ∀ r ∈ rs, EsR w r.d r.es
theorem EssR.below {w w' : World} {s : Sl} {rs : List ER} (h : EssR w s rs) (hb : Below w.heap.size w w') : EssR w' s rs := ⟨h.of.below hb, fun r hr => SlOf.below (h.ok r hr) hb⟩
theorem EssR.at {w w' : World} {ls : List Blk} {s : Sl} {rs : List ER} (h : EssR w s rs) (hA : At w w' ls) : EssR w' s rs := h.below hA.below
theorem EssR.n {w : World} {s : Sl} {rs : List ER} (h : EssR w s rs) : s.n = rs.length := h.of.n
theorem EssR.get {w : World} {s : Sl} {rs : List ER} (h : EssR w s rs) {i : Nat} (hi : i < rs.length) : ∃ r p, rs[i]? = some r ∧ r ∈ rs ∧ s.a = some p ∧ EsR w r.d r.es ∧ ldOk w 1 (p.add (i * 1)) .slice r.d := by
  have hk : rs[i]? = some rs[i] := List.getElem?_eq_getElem hi
  obtain ⟨p, hp, _⟩ := h.of.cell hk
  refine ⟨_, p, hk, List.getElem_mem hi, hp, h.ok _ (List.getElem_mem hi), ?_⟩
  have := h.of.fld hk hp (n := 1) 0 (sh := .slice) (y := rs[i].d) rfl (by simp [Sh.emb])
  rwa [Nat.add_zero] at this

inductive OwnED : List ER → List Blk → Prop where
  | nil : OwnED [] []
  | cons {b : ER} {r : List ER} {L1 L2 : List Blk} : OwnEntryS b.d b.es L1 → OwnED r L2 → OwnED (b :: r) (L1 ++ L2)
theorem OwnED.append {r t : List ER} {L M : List Blk} (h : OwnED r L) (k : OwnED t M) : OwnED (r ++ t) (L ++ M) := by
  induction h with
  | nil => exact k
  | cons h1 _ ih => rw [List.append_assoc]; exact .cons h1 ih
theorem OwnED.snoc {r : List ER} {b : ER} {L M : List Blk} (h : OwnED r L) (k : OwnEntryS b.d b.es M) : OwnED (r ++ [b]) (L ++ M) := by
  have := h.append (OwnED.cons k .nil)
  simpa using this
theorem OwnED.ok {w0 w : World} {ls L : List Blk} {rs : List ER} (h : OwnED rs L) (hA : At w0 w ls) (hs : L.Sublist ls) : ∀ r ∈ rs, EsR w r.d r.es := by
  induction h with
  | nil => simp
  | @cons b r L1 L2 h1 h2 ih =>
    intro x hx
    cases hx with
    | head => exact OwnS.of h1 hA ((List.sublist_append_left _ _).trans hs) (fun l _ => entC_len l) (by omega)
    | tail _ hx => exact ih ((List.sublist_append_right _ _).trans hs) x hx
def OwnEss (s : Sl) (rs : List ER) (L : List Blk) : Prop := ∃ Lb Ld, L = Lb ++ Ld ∧ OwnS ty_sl_impl_Entry 1 s (rs.flatMap ER.cells) Lb ∧ OwnED rs Ld
theorem OwnEss.rd {w0 w : World} {ls L : List Blk} {s : Sl} {rs : List ER} (h : OwnEss s rs L) (hA : At w0 w ls) (hs : L.Sublist ls) : EssR w s rs := by
  obtain ⟨Lb, Ld, rfl, h1, h2⟩ := h
  exact ⟨h1.of hA ((List.sublist_append_left _ _).trans hs) (fun b _ => ercells_len b) (by omega), h2.ok hA ((List.sublist_append_right _ _).trans hs)⟩
theorem T_sl_slEntry : SlT Tryz.prog ty_sl_sl_impl_Entry ty_sl_impl_Entry 1 24 := slT_of (by kernel_rfl)

def RdEntrySS (w : World) (s : Sl) (X : List (List PE)) : Prop := ∃ rs, rs.map ER.es = X ∧ EssR w s rs
theorem RdEntrySS.at {w w' : World} {ls : List Blk} {s : Sl} {X : List (List PE)} (h : RdEntrySS w s X) (hA : At w w' ls) : RdEntrySS w' s X := let ⟨rs, h1, h2⟩ := h; ⟨rs, h1, h2.at hA⟩
def OwnEntrySS (s : Sl) (X : List (List PE)) (L : List Blk) : Prop := ∃ rs, rs.map ER.es = X ∧ OwnEss s rs L
theorem OwnEntrySS.rd {w0 w : World} {s : Sl} {X : List (List PE)} {L ls : List Blk} (h : OwnEntrySS s X L) (hA : At w0 w (L ++ ls)) : RdEntrySS w s X := let ⟨rs, h1, h2⟩ := h; ⟨rs, h1, h2.rd hA (List.sublist_append_left _ _)⟩
theorem OwnEntrySS.none : OwnEntrySS ⟨none, 0, 0⟩ [] [] := ⟨[], rfl, [], [], rfl, OwnS.nil _ _, .nil⟩
def RawEntrySS (w : World) (s : Sl) (X : List (List PE)) : Prop := ∃ rs, rs.map ER.es = X ∧ EssR w s rs ∧ s.c ≤ maxLen ∧ ∀ r ∈ rs, RawEntryS w r.d r.es
theorem RawEntrySS.rd {w : World} {s : Sl} {X : List (List PE)} (h : RawEntrySS w s X) : RdEntrySS w s X := let ⟨rs, h1, h2, _⟩ := h; ⟨rs, h1, h2⟩
def sizeEntrySS (X : List (List PE)) : Nat := X.length + sumF sizeEntryS X
theorem ermap_get {rs : List ER} {X : List (List PE)} (h : rs.map ER.es = X) {i : Nat} {r : ER} (hr : rs[i]? = some r) : X[i]? = some r.es := by rw [← h, List.getElem?_map, hr]; rfl
end Go.Proofs.YtkifkdkjljcclaaGreat

namespace Go.Proofs.YtkifkdkjljcclaaGreat
open Go.Sx Go.RowKit
open Go.ChangeShapes Go.WideShapes Go.ChangeAt Go.Deep

abbrev PL := List Int × Int
def leaseC (l : PL) : List Value := u8s l.1 ++ [.int .i64 l.2]
theorem leaseC_len {l : PL} (h : keyOk l.1) : (leaseC l).length = 33 := by unfold leaseC; rw [List.length_append, u8s_len, h.1]; rfl
theorem lease_til {l : PL} (h : keyOk l.1) : (leaseC l)[32]? = some (.int .i64 l.2) := by
  unfold leaseC
  have e : (u8s l.1).length = 32 := by rw [u8s_len]; exact h.1
  rw [List.getElem?_append_right (by omega), e]
  rfl
structure LsR (w : World) (s : Sl) (ls : List PL) : Prop where
  of : SlOf w s 33 leaseC ls
  ok : ∀ l ∈ ls, keyOk l.1
theorem LsR.at {w w' : World} {bl : List Blk} {s : Sl} {ls : List PL} (h : LsR w s ls) (hA : At w w' bl) : LsR w' s ls := ⟨h.of.below hA.below, h.ok⟩
theorem LsR.n {w : World} {s : Sl} {ls : List PL} (h : LsR w s ls) : s.n = ls.length := h.of.n
theorem LsR.get {w : World} {s : Sl} {ls : List PL} (h : LsR w s ls) {i : Nat} (hi : i < ls.length) : ∃ l p, ls[i]? = some l ∧ l ∈ ls ∧ s.a = some p ∧ keyOk l.1 ∧ ldOk w 33 (p.add (i * 33)) .agg (leaseC l).toArray ∧ ldOk w 32 ((p.add (i * 33)).add 0) .agg (u8s l.1).toArray ∧ ldOk w 1 ((p.add (i * 33)).add 32) (.int .i64) l.2 := by
  have hk : ls[i]? = some ls[i] := List.getElem?_eq_getElem hi
  obtain ⟨p, hp, _⟩ := h.of.cell hk
  have ha := h.of.agg hk hp
  have hko := h.ok _ (List.getElem_mem hi)
  refine ⟨_, p, hk, List.getElem_mem hi, hp, hko, ha, ⟨by simp [hko.1], fun j v hv => ?_⟩, ha.2 32 _ (by rw [List.getElem?_toArray]; exact lease_til hko)⟩
  rw [Go.Deep.add_add, Nat.zero_add]
  refine ha.2 j v ?_
  rw [List.getElem?_toArray] at hv ⊢
  unfold leaseC
  rw [List.getElem?_append_left (List.getElem?_eq_some_iff.1 hv).1]
  exact hv

def RdLeaseS (w : World) (s : Sl) (ls : List PL) : Prop := LsR w s ls
theorem RdLeaseS.at {w w' : World} {bl : List Blk} {s : Sl} {ls : List PL} (h : RdLeaseS w s ls) (hA : At w w' bl) : RdLeaseS w' s ls := LsR.at h hA
def OwnLeaseS (s : Sl) (ls : List PL) (L : List Blk) : Prop := OwnS ty_impl_Lease 33 s (ls.flatMap leaseC) L ∧ ∀ l ∈ ls, keyOk l.1
theorem OwnLeaseS.rd {w0 w : World} {s : Sl} {ls : List PL} {L bl : List Blk} (h : OwnLeaseS s ls L) (hA : At w0 w (L ++ bl)) : RdLeaseS w s ls := ⟨h.1.of hA (List.sublist_append_left _ _) (fun l hl => leaseC_len (h.2 l hl)) (by omega), h.2⟩
def RawLeaseS (w : World) (s : Sl) (ls : List PL) : Prop := LsR w s ls ∧ s.n ≤ s.c ∧ s.c ≤ maxLen
theorem RawLeaseS.rd {w : World} {s : Sl} {ls : List PL} (h : RawLeaseS w s ls) : RdLeaseS w s ls := h.1
end Go.Proofs.YtkifkdkjljcclaaGreat
