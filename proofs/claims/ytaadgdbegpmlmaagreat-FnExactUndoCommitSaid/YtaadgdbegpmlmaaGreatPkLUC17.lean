/- More kinds of values of which laws speak: slices of slices of entries. More kinds of values of which laws speak: slices of leases. What a blob links to: both sides. The links of a blob: what both sides answer. Rules beside an own map. Printed in part (mp0.py). LinkPath's plain law: a search in breadth. Is a key in a slice of keys (reference); a slice of keys turned round (library). LinkPath's plain law: the path. LinkPath: the program's map of predecessors, plain. LinkPath: what both sides answer, plain. -/
import Derived.WideKeyRuns
import Derived.Test.YtaadgdbegpmlmaaGreatPkLUC16
import Derived.Test.YtaadgdbegpmlmaaGreatPkLUC15
import Derived.Test.YtaadgdbegpmlmaaGreatPkLUC14
import Derived.Test.YtaadgdbegpmlmaaGreatPkLUC05
namespace Go.Proofs.YtaadgdbegpmlmaaGreat
open Go.Sx Go.RowKit
open Go.ChangeShapes Go.WideShapes Go.ChangeAt Go.Deep

def sumF {α : Type} (f : α → Nat) (X : List α) : Nat := (X.map f).sum
theorem sumF_cons {α : Type} (f : α → Nat) (x : α) (X : List α) : sumF f (x :: X) = f x + sumF f X := by simp [sumF]
theorem sumF_append {α : Type} (f : α → Nat) (X Y : List α) : sumF f (X ++ Y) = sumF f X + sumF f Y := by simp [sumF]
theorem sumF_one {α : Type} (f : α → Nat) (x : α) : sumF f [x] = f x := by simp [sumF]
theorem sumF_take {α : Type} (f : α → Nat) {X : List α} {j : Nat} {x : α} (h : X[j]? = some x) : sumF f (X.take (j + 1)) = sumF f (X.take j) + f x := by rw [take_succ_get h, sumF_append, sumF_one]
theorem sumF_le {α : Type} (f : α → Nat) (X : List α) (j : Nat) : sumF f (X.take j) ≤ sumF f X := by
  have := congrArg (sumF f) (List.take_append_drop j X)
  rw [sumF_append] at this
  omega
theorem sumF_get {α : Type} (f : α → Nat) {X : List α} {j : Nat} {x : α} (h : X[j]? = some x) : f x ≤ sumF f X := by
  have h1 := sumF_take f h
  have h2 := sumF_le f X (j + 1)
  omega

structure ER where
  d : Sl
  es : List PE
instance : Inhabited ER := ⟨⟨⟨none, 0, 0⟩, []⟩⟩
def ER.cells (r : ER) : List Value := [.slice r.d.a r.d.n r.d.c]
theorem ercells_len (r : ER) : r.cells.length = 1 := rfl
structure EssR (w : World) (s : Sl) (rs : List ER) : Prop where
  of : SlOf w s 1 ER.cells rs
  ok : ∀ r ∈ rs, EsR w r.d r.es
theorem EssR.below {w w' : World} {s : Sl} {rs : List ER} (h : EssR w s rs) (hb : Below w.heap.size w w') : EssR w' s rs := ⟨h.of.below hb, fun r hr => SlOf.below (h.ok r hr) hb⟩
theorem EssR.at {w w' : World} {ls : List Blk} {s : Sl} {rs : List ER} (h : EssR w s rs) (hA : At w w' ls) : EssR w' s rs := h.below hA.below
theorem EssR.n {w : World} {s : Sl} {rs : List ER} (h : EssR w s rs) : s.n = rs.length := h.of.n
theorem EssR.get {w : World} {s : Sl} {rs : List ER} (h : EssR w s rs) {i : Nat} (hi : i < rs.length) : ∃ r p, rs[i]? = some r ∧ r ∈ rs ∧ s.a = some p ∧ EsR w r.d r.es ∧ ldOk w 1 (p.add (i * 1)) .slice r.d := by
  have hk : rs[i]? = some rs[i] := List.getElem?_eq_getElem hi
  obtain ⟨p, hp, _⟩ := h.of.cell hk
  refine ⟨_, p, hk, List.getElem_mem hi, hp, h.ok _ (List.getElem_mem hi), ?_⟩
  have := h.of.fld hk hp (n := 1) 0 (sh := .slice) (y := rs[i].d) rfl (by simp [Sh.emb])
  rwa [Nat.add_zero] at this

inductive OwnED : List ER → List Blk → Prop where
  | nil : OwnED [] []
  | cons {b : ER} {r : List ER} {L1 L2 : List Blk} : OwnEntryS b.d b.es L1 → OwnED r L2 → OwnED (b :: r) (L1 ++ L2)
theorem OwnED.append {r t : List ER} {L M : List Blk} (h : OwnED r L) (k : OwnED t M) : OwnED (r ++ t) (L ++ M) := by
  induction h with
  | nil => exact k
  | cons h1 _ ih => rw [List.append_assoc]; exact .cons h1 ih
theorem OwnED.snoc {r : List ER} {b : ER} {L M : List Blk} (h : OwnED r L) (k : OwnEntryS b.d b.es M) : OwnED (r ++ [b]) (L ++ M) := by
  have := h.append (OwnED.cons k .nil)
  simpa using this
theorem OwnED.ok {w0 w : World} {ls L : List Blk} {rs : List ER} (h : OwnED rs L) (hA : At w0 w ls) (hs : L.Sublist ls) : ∀ r ∈ rs, EsR w r.d r.es := by
  induction h with
  | nil => simp
  | @cons b r L1 L2 h1 h2 ih =>
    intro x hx
    cases hx with
    | head => exact OwnS.of h1 hA ((List.sublist_append_left _ _).trans hs) (fun l _ => entC_len l) (by omega)
    | tail _ hx => exact ih ((List.sublist_append_right _ _).trans hs) x hx
def OwnEss (s : Sl) (rs : List ER) (L : List Blk) : Prop := ∃ Lb Ld, L = Lb ++ Ld ∧ OwnS ty_sl_impl_Entry 1 s (rs.flatMap ER.cells) Lb ∧ OwnED rs Ld
theorem OwnEss.rd {w0 w : World} {ls L : List Blk} {s : Sl} {rs : List ER} (h : OwnEss s rs L) (hA : At w0 w ls) (hs : L.Sublist ls) : EssR w s rs := by
  obtain ⟨Lb, Ld, rfl, h1, h2⟩ := h
  exact ⟨h1.of hA ((List.sublist_append_left _ _).trans hs) (fun b _ => ercells_len b) (by omega), h2.ok hA ((List.sublist_append_right _ _).trans hs)⟩
theorem T_sl_slEntry : SlT Tryz.prog ty_sl_sl_impl_Entry ty_sl_impl_Entry 1 24 := slT_of (by kernel_rfl)

def RdEntrySS (w : World) (s : Sl) (X : List (List PE)) : Prop := ∃ rs, rs.map ER.es = X ∧ EssR w s rs
theorem RdEntrySS.at {w w' : World} {ls : List Blk} {s : Sl} {X : List (List PE)} (h : RdEntrySS w s X) (hA : At w w' ls) : RdEntrySS w' s X := let ⟨rs, h1, h2⟩ := h; ⟨rs, h1, h2.at hA⟩
def OwnEntrySS (s : Sl) (X : List (List PE)) (L : List Blk) : Prop := ∃ rs, rs.map ER.es = X ∧ OwnEss s rs L
theorem OwnEntrySS.rd {w0 w : World} {s : Sl} {X : List (List PE)} {L ls : List Blk} (h : OwnEntrySS s X L) (hA : At w0 w (L ++ ls)) : RdEntrySS w s X := let ⟨rs, h1, h2⟩ := h; ⟨rs, h1, h2.rd hA (List.sublist_append_left _ _)⟩
theorem OwnEntrySS.none : OwnEntrySS ⟨none, 0, 0⟩ [] [] := ⟨[], rfl, [], [], rfl, OwnS.nil _ _, .nil⟩
def RawEntrySS (w : World) (s : Sl) (X : List (List PE)) : Prop := ∃ rs, rs.map ER.es = X ∧ EssR w s rs ∧ s.c ≤ maxLen ∧ ∀ r ∈ rs, RawEntryS w r.d r.es
theorem RawEntrySS.rd {w : World} {s : Sl} {X : List (List PE)} (h : RawEntrySS w s X) : RdEntrySS w s X := let ⟨rs, h1, h2, _⟩ := h; ⟨rs, h1, h2⟩
def sizeEntrySS (X : List (List PE)) : Nat := X.length + sumF sizeEntryS X
def msizeEntrySS (X : List (List PE)) : Nat := sumF msizeEntryS X
def markEntrySS : Int → List (List PE) → List (List PE)
  | _, [] => []
  | k, x :: r => markEntryS k x :: markEntrySS (k + msizeEntryS x) r
theorem markEntrySS_len (k : Int) (X : List (List PE)) : (markEntrySS k X).length = X.length := by
  induction X generalizing k with
  | nil => rfl
  | cons x r ih => simp [markEntrySS, ih]
theorem markEntrySS_append (k : Int) (X Y : List (List PE)) : markEntrySS k (X ++ Y) = markEntrySS k X ++ markEntrySS (k + sumF msizeEntryS X) Y := by
  induction X generalizing k with
  | nil => simp [markEntrySS, sumF]
  | cons x r ih =>
    rw [List.cons_append]
    show markEntryS k x :: markEntrySS (k + msizeEntryS x) (r ++ Y) = (markEntryS k x :: markEntrySS (k + msizeEntryS x) r) ++ _
    rw [ih, List.cons_append, sumF_cons]
    congr 3
    omega
theorem ermap_get {rs : List ER} {X : List (List PE)} (h : rs.map ER.es = X) {i : Nat} {r : ER} (hr : rs[i]? = some r) : X[i]? = some r.es := by rw [← h, List.getElem?_map, hr]; rfl
theorem msize_sizeE (es : List PE) : msizeEntryS es ≤ 2 * sizeEntryS es := by unfold msizeEntryS sizeEntryS; omega
theorem msize_sizeESS (X : List (List PE)) : msizeEntrySS X ≤ 2 * sizeEntrySS X := by
  have : sumF msizeEntryS X ≤ 2 * sumF sizeEntryS X := by
    induction X with
    | nil => simp [sumF]
    | cons x r ih =>
      rw [sumF_cons, sumF_cons]
      have := msize_sizeE x
      omega
  unfold msizeEntrySS sizeEntrySS
  omega

theorem c_szEntrySSV {w : World} {s : Sl} {X : List (List PE)} (h : RawEntrySS w s X) {w1 : World} (hb : Below w.heap.size w w1) (m : Int) (hm : 0 ≤ m ∧ m ≤ 1073741824) : Ret Tryz.prog n_laws_szEntrySS [.slice s.a s.n s.c, .int .i64 m] w1 [.int .i64] (fun x _ => x = if (sizeEntrySS X : Int) ≤ m then m - sizeEntrySS X else -1) := laws_szEntrySS_calls s m (by
  unfold laws_szEntrySS
  obtain ⟨rs, hX, hs, hc, hd⟩ := h
  have hn := hs.n
  have hXl : X.length = rs.length := by rw [← hX]; simp
  have hcap := hs.of.cap
  have hsz : sizeEntrySS X = X.length + sumF sizeEntryS X := rfl
  unfold maxLen at hc
  rw [w64 (by omega) (by omega)]
  refine r_if (m - (s.n : Int) < 0) rfl (fun h1 => ?_) (fun h1 => ?_)
  · exact r_ret (At.refl w1) (-1 : Int) rfl (by rw [if_neg (by omega)])
  have hs1 : EssR w1 s rs := hs.below hb
  refine r_loop (σ := Int × Int) (fun i w' => ∃ j : Nat, i = (m - s.n - (sumF sizeEntryS (X.take j) : Nat), (j : Int)) ∧ j ≤ rs.length ∧ 0 ≤ i.1 ∧ At w1 w' []) (fun i _ => (s.n - i.2).toNat) (m - s.n, 0) rfl ⟨0, by simp [sumF], by omega, by dsimp only; omega, At.refl w1⟩ ?_
  rintro i w2 ⟨j, rfl, hj, h0, h⟩
  refine r_any fun _ => ?_
  dsimp only at h0 ⊢
  refine r_if ((j : Int) < (s.n : Int)) rfl (fun hlt => ?_) (fun hge => ?_)
  · obtain ⟨r, p, hr, hrm, hp, hok, hld⟩ := (hs1.at h).get (i := j) (by omega)
    have hx := ermap_get hX hr
    have hst := sumF_take sizeEntryS hx
    have hle := sumF_le sizeEntryS X (j + 1)
    refine r_ix p hp (by omega) (by omega) ?_
    refine r_ldN r.d (by simp only [Int.toNat_natCast]; exact hld) ?_
    refine r_call h (c_szEntrySV (hd r hrm) (hb.trans (h.below.mono hb.size)) _ ⟨h0, by omega⟩) fun x w3 h _ hx => ?_
    subst hx
    by_cases hc1 : (sizeEntryS r.es : Int) ≤ m - s.n - (sumF sizeEntryS (X.take j) : Nat)
    · rw [if_pos hc1]
      refine r_if (m - (s.n : Int) - (sumF sizeEntryS (X.take j) : Nat) - (sizeEntryS r.es : Int) < 0) rfl (fun hh => by omega) (fun _ => ?_)
      refine ⟨(m - s.n - (sumF sizeEntryS (X.take (j + 1)) : Nat), ((j + 1 : Nat) : Int)), by rw [w64 (by omega) (by omega), hst]; simp only [embL, Sh.emb]; congr 2; omega, ⟨j + 1, rfl, by omega, by dsimp only; rw [hst]; omega, h⟩, by dsimp only; omega⟩
    · rw [if_neg hc1]
      refine r_true rfl ?_
      exact r_ret h (-1 : Int) rfl (by rw [if_neg (by omega)])
  · have : j = rs.length := by omega
    subst this
    have : X.take rs.length = X := List.take_of_length_le (by omega)
    rw [this] at h0 ⊢
    refine r_ret h _ rfl ?_
    rw [if_pos (by omega), hsz]
    show (m - (s.n : Int) - (sumF sizeEntryS X : Nat) : Int) = m - ((X.length + sumF sizeEntryS X : Nat) : Int)
    omega)

theorem c_toEntrySSV {w : World} {s : Sl} {X : List (List PE)} (h : RdEntrySS w s X) (hz : sizeEntrySS X ≤ 1073741824) : Ret Tryz.prog n_laws_toEntrySS [.slice s.a s.n s.c] w [.slice] (fun r w' => ∃ L, At w w' L ∧ OwnEntrySS r X L) := laws_toEntrySS_calls s (by
  unfold laws_toEntrySS
  obtain ⟨rs, hX, hs⟩ := h
  have hn := hs.n
  have hXl : X.length = rs.length := by rw [← hX]; simp
  unfold sizeEntrySS at hz
  refine r_mkO T_sl_slEntry (At.refl w) (by omega) (by omega) fun y xs L w1 h hO hyn ⟨p, hp⟩ => ?_
  refine r_loop (σ := Int) (fun i w' => ∃ (k : Nat) (xs : List Value) (ts : List ER) (L Ld : List Blk), i = k ∧ k ≤ rs.length ∧ At w w' (L ++ Ld) ∧ OwnS ty_sl_impl_Entry 1 y xs L ∧ OwnED ts Ld ∧ ts.map ER.es = X.take k ∧ xs.take k = ts.flatMap ER.cells) (fun i _ => (s.n - i).toNat) 0 rfl
    ⟨0, xs, [], L, [], rfl, by omega, h, hO, .nil, by simp, by simp⟩ ?_
  rintro i w4 ⟨k, xs, ts, L, Ld, rfl, hk, h, hO, hD, hpb, htk⟩
  refine r_any fun _ => ?_
  have hxl := hO.1
  refine r_if ((k : Int) < (s.n : Int)) rfl (fun hlt => ?_) (fun hge => ?_)
  · obtain ⟨r, q, hr, hrm, hq, hok, hld⟩ := (hs.at h.nil).get (i := k) (by omega)
    have hx := ermap_get hX hr
    have hgt := sumF_get sizeEntryS hx
    refine r_ix q hq (by omega) (by omega) ?_
    refine r_ldN r.d (by simp only [Int.toNat_natCast]; exact hld) ?_
    refine r_call h (c_toEntrySV hok (by omega)) fun t w5 _ _ ⟨L', hL', hO'⟩ => ?_
    have h := (h.join hL').swap
    rw [List.append_assoc] at h
    refine r_ix p hp (by omega) (by omega) ?_
    refine r_stO h hO hp k (by simp) (by simp [Value.cells]) (by omega) (by simp [Value.cells, oneC]) fun w6 L6 h6 hO6 => ?_
    refine ⟨((k + 1 : Nat) : Int), by rw [w64 (by omega) (by omega)]; rfl, ⟨k + 1, _, ts ++ [⟨t, r.es⟩], L6, Ld ++ L', rfl, by omega, h6, hO6, hD.snoc (b := ⟨t, r.es⟩) hO', ?_, ?_⟩, by omega⟩
    · rw [List.map_append, hpb, take_succ_get hx]
      rfl
    · rw [seg_take (by omega) (by simp [Value.cells]), htk, List.flatMap_append]
      simp [Value.cells, ER.cells]
  · have hkl : k = rs.length := by omega
    subst hkl
    rw [List.take_of_length_le (by rw [hxl, hyn]; omega)] at htk
    rw [List.take_of_length_le (by omega)] at hpb
    subst htk
    exact r_ret h.nil y rfl ⟨_, h, ts, hpb, L, Ld, rfl, hO, hD⟩)

theorem c_eqEntrySSV {w : World} {s t : Sl} {X : List (List PE)} (h : RdEntrySS w s X) (h' : RdEntrySS w t X) (hz : sizeEntrySS X ≤ 1073741824) : Ret Tryz.prog n_laws_eqEntrySS [.slice s.a s.n s.c, .slice t.a t.n t.c] w [.bool] (fun x _ => x = true) := laws_eqEntrySS_calls _ _ (by
  unfold laws_eqEntrySS
  obtain ⟨rs, hX, hs⟩ := h
  obtain ⟨ts, hX', ht⟩ := h'
  have h1 := hs.n
  have h2 := ht.n
  have hXl : X.length = rs.length := by rw [← hX]; simp
  have hXl' : X.length = ts.length := by rw [← hX']; simp
  unfold sizeEntrySS at hz
  refine r_ne (fun hh => by omega) fun _ => ?_
  refine r_loop (σ := Int) (fun i w' => ∃ j : Nat, i = j ∧ j ≤ rs.length ∧ At w w' []) (fun i _ => (s.n - i).toNat) 0 rfl ⟨0, rfl, by omega, At.refl w⟩ ?_
  rintro i w8 ⟨j, rfl, hj, h⟩
  refine r_any fun _ => ?_
  refine r_if ((j : Int) < (s.n : Int)) rfl (fun hlt => ?_) (fun hge => ?_)
  · refine r_draw h fun w3 h => ?_
    obtain ⟨r, p, hr, hrm, hp, hok, hld⟩ := (hs.at h).get (i := j) (by omega)
    obtain ⟨r2, q, hr2, _, hq, hok2, hld2⟩ := (ht.at h).get (i := j) (by omega)
    have hx := ermap_get hX hr
    have hx2 := ermap_get hX' hr2
    rw [hx] at hx2
    have hd := Option.some.inj hx2
    have hgt := sumF_get sizeEntryS hx
    refine r_ix p hp (by omega) (by omega) ?_
    refine r_ldN r.d (by simp only [Int.toNat_natCast]; exact hld) ?_
    refine r_ix q hq (by omega) (by omega) ?_
    refine r_ldN r2.d (by simp only [Int.toNat_natCast]; exact hld2) ?_
    refine r_call h (c_eqEntrySV hok (by rw [hd]; exact hok2) (by omega)) fun x w4 h _ hx => ?_
    subst hx
    refine r_false rfl ?_
    exact ⟨((j + 1 : Nat) : Int), by rw [w64 (by omega) (by omega)]; rfl, ⟨j + 1, rfl, by omega, h⟩, by omega⟩
  · exact r_ret h _ rfl rfl)

theorem c_markEntrySSV {w0 w : World} {ls L : List Blk} {s : Sl} {X : List (List PE)} (hA : At w0 w (L ++ ls)) (hO : OwnEntrySS s X L) (k : Int) (h0 : 0 ≤ k) (hmax : k + msizeEntrySS X ≤ 4611686018427387904) (hlen : sizeEntrySS X ≤ 1073741824) :
    Calls Tryz.prog n_laws_markEntrySS [.slice s.a s.n s.c, .int .i64 k].toArray w fun e w' => ∃ v, e = .returned v ∧ v = .int .i64 (k + msizeEntrySS X) ∧ ∃ L', At w0 w' (L' ++ ls) ∧ OwnEntrySS s (markEntrySS k X) L' := laws_markEntrySS_calls s k (by
  unfold laws_markEntrySS
  obtain ⟨rs, hX, ⟨Lb, Ld, rfl, hOb, hD⟩⟩ := hO
  have hn : s.n = rs.length := by
    have := hOb.1
    rw [flatMap_length (fun b _ => ercells_len b)] at this
    omega
  have hXl : X.length = rs.length := by rw [← hX]; simp
  unfold msizeEntrySS at hmax ⊢
  unfold sizeEntrySS at hlen
  refine r_loop (σ := Int × Int) (fun i w' => ∃ (r1 r2 : List ER) (L1 L2 : List Blk) (X1 : List (List PE)), i = (k + sumF msizeEntryS X1, (r1.length : Int)) ∧ X1 ++ r2.map ER.es = X ∧ r1.map ER.es = markEntrySS k X1 ∧ (r1 ++ r2).flatMap ER.cells = rs.flatMap ER.cells ∧ At w0 w' (Lb ++ (L1 ++ (L2 ++ ls))) ∧ OwnED r1 L1 ∧ OwnED r2 L2) (fun i _ => (s.n - i.2).toNat) (k, 0) rfl
    ⟨[], rs, [], Ld, [], by simp [sumF], by simpa using hX, by simp [markEntrySS], rfl, by simpa [List.append_assoc] using hA, .nil, hD⟩ ?_
  rintro i w4 ⟨r1, r2, L1, L2, X1, rfl, hX2, hm, hcells, h, hD1, hD2⟩
  refine r_any fun _ => ?_
  dsimp only
  have hl1 : X1.length = r1.length := by have := congrArg List.length hm; rw [markEntrySS_len] at this; simpa using this.symm
  have hl : r1.length + r2.length = rs.length := by
    have := congrArg List.length hX2
    rw [List.length_append, List.length_map] at this
    omega
  have hsz : sumF msizeEntryS X1 + sumF msizeEntryS (r2.map ER.es) = sumF msizeEntryS X := by rw [← hX2, sumF_append]
  have hsz2 : sumF sizeEntryS X1 + sumF sizeEntryS (r2.map ER.es) = sumF sizeEntryS X := by rw [← hX2, sumF_append]
  refine r_if ((r1.length : Int) < (s.n : Int)) rfl (fun hlt => ?_) (fun hge => ?_)
  · cases r2 with
    | nil => simp at hl; omega
    | cons b r2 =>
      rw [List.map_cons, sumF_cons] at hsz hsz2
      obtain ⟨p, hp⟩ := hOb.addr (by omega)
      refine r_ix p hp (by omega) (by omega) ?_
      have hOb' : OwnS ty_sl_impl_Entry 1 s ((r1 ++ b :: r2).flatMap ER.cells) Lb := by rw [hcells]; exact hOb
      have hrd := hOb'.of h (List.sublist_append_left _ _) (fun b _ => ercells_len b) (by omega)
      have hx : (r1 ++ b :: r2)[r1.length]? = some b := by simp
      refine r_ldN b.d (by
        have := hrd.fld hx hp (n := 1) 0 (sh := .slice) (y := b.d) rfl (by simp [Sh.emb])
        rw [Nat.add_zero] at this
        simp only [Int.toNat_natCast]
        exact this) ?_
      cases hD2 with
      | @cons _ _ M1 M2 hM1 hM2 =>
      have h : At w0 w4 (Lb ++ (L1 ++ (M1 ++ (M2 ++ ls)))) := by simpa [List.append_assoc] using h
      refine r_callR (c_markEntrySV h.pl2 hM1 (k + sumF msizeEntryS X1) (by omega) (by omega) (by omega)) ?_
      rintro v w5 ⟨rfl, M1', h, hM1'⟩
      refine ⟨_, rfl, ?_⟩
      have h := h.ps2
      refine ⟨(k + sumF msizeEntryS (X1 ++ [b.es]), (((r1 ++ [(⟨b.d, markEntryS (k + sumF msizeEntryS X1) b.es⟩ : ER)]).length : Nat) : Int)), ?_, ⟨r1 ++ [⟨b.d, markEntryS (k + sumF msizeEntryS X1) b.es⟩], r2, L1 ++ M1', M2, X1 ++ [b.es], rfl, ?_, ?_, ?_, ?_, hD1.snoc (b := ⟨b.d, markEntryS (k + sumF msizeEntryS X1) b.es⟩) hM1', hM2⟩, by simp; omega⟩
      · rw [w64 (by omega) (by omega), sumF_append, sumF_one]
        simp only [embL, Sh.emb, List.length_append, List.length_cons, List.length_nil]
        congr 2
        omega
      · rw [← hX2]; simp
      · rw [List.map_append, hm, markEntrySS_append]
        rfl
      · rw [← hcells]; simp [ER.cells]
      · rw [List.append_assoc]; exact h
  · have : r2 = [] := List.eq_nil_of_length_eq_zero (by omega)
    subst this
    rw [List.map_nil, List.append_nil] at hX2
    subst hX2
    rw [List.append_nil] at hcells
    cases hD2
    exact r_retR ⟨rfl, Lb ++ L1, by simpa [List.append_assoc] using h, r1, hm, ⟨Lb, L1, rfl, by rw [hcells]; exact hOb, hD1⟩⟩)

theorem c_heldEntrySSV {w : World} {s : Sl} {X : List (List PE)} (k : Int) (h : RdEntrySS w s (markEntrySS k X)) (h0 : 0 ≤ k) (hmax : k + msizeEntrySS X ≤ 4611686018427387904) (hlen : sizeEntrySS X ≤ 1073741824) : Ret Tryz.prog n_laws_heldEntrySS [.slice s.a s.n s.c, .int .i64 k] w [.int .i64] (fun x _ => x = k + msizeEntrySS X) := laws_heldEntrySS_calls s k (by
  unfold laws_heldEntrySS
  obtain ⟨rs, hX, hs⟩ := h
  have hn := hs.n
  have hXl : X.length = rs.length := by have := congrArg List.length hX; rw [markEntrySS_len, List.length_map] at this; omega
  unfold msizeEntrySS at hmax ⊢
  unfold sizeEntrySS at hlen
  refine r_loop (σ := Int × Int) (fun i w' => ∃ (X1 X2 : List (List PE)), i = (k + sumF msizeEntryS X1, (X1.length : Int)) ∧ X = X1 ++ X2 ∧ At w w' []) (fun i _ => (s.n - i.2).toNat) (k, 0) rfl ⟨[], X, by simp [sumF], rfl, At.refl w⟩ ?_
  rintro i w4 ⟨X1, X2, rfl, rfl, h⟩
  refine r_any fun _ => ?_
  dsimp only
  rw [List.length_append] at hXl hlen
  rw [sumF_append] at hmax hlen
  refine r_if ((X1.length : Int) < (s.n : Int)) rfl (fun hlt => ?_) (fun hge => ?_)
  · cases X2 with
    | nil => simp at hXl; omega
    | cons c X2 =>
      rw [sumF_cons] at hmax hlen
      obtain ⟨r, p, hr, hrm, hp, hok, hld⟩ := (hs.at h).get (i := X1.length) (by omega)
      have hx := ermap_get hX hr
      have hrd : r.es = markEntryS (k + sumF msizeEntryS X1) c := by
        rw [markEntrySS_append] at hx
        rw [List.getElem?_append_right (by rw [markEntrySS_len]; omega), markEntrySS_len, Nat.sub_self] at hx
        simpa [markEntrySS] using hx.symm
      refine r_ix p hp (by omega) (by omega) ?_
      refine r_ldN r.d (by simp only [Int.toNat_natCast]; exact hld) ?_
      refine r_call h (c_heldEntrySV (es := c) _ (by rw [← hrd]; exact hok) (by omega) (by omega) (by omega)) fun x w5 h _ hx => ?_
      subst hx
      refine r_if (k + (sumF msizeEntryS X1 : Int) + (msizeEntryS c : Int) < 0) rfl (fun hh => by omega) (fun _ => ?_)
      refine ⟨(k + sumF msizeEntryS (X1 ++ [c]), (((X1 ++ [c]).length : Nat) : Int)), ?_, ⟨X1 ++ [c], X2, rfl, by simp, h⟩, by simp; omega⟩
      rw [w64 (by omega) (by omega), sumF_append, sumF_one]
      simp only [embL, Sh.emb, List.length_append, List.length_cons, List.length_nil]
      congr 2
      omega
  · have : X2 = [] := List.eq_nil_of_length_eq_zero (by omega)
    subst this
    exact r_ret h _ rfl (by rw [List.append_nil]))

theorem open_Entries {H : Type} {enc : TypeId × Value → H} {w : World} {base : Nat} {spare : Nat → Bool} {held : Bool} {fuel : Nat} {cs : List Value} {x : DataW H × List MemPlace} (h : DataW.trod enc Tryz.prog w base spare held fuel ty_sl_laws_Entry cs = some x) : ∃ (s : Sl) (es : List PE), cs = [.slice s.a s.n s.c] ∧ RawEntryS w s es := by
  obtain ⟨s, es, h1, h2, h3, h4⟩ := trod_sl (α := PE) (u := ty_laws_Entry) (z := 2) (cells := entC) (ok := fun e => e.1.size ≤ maxLen ∧ e.2.size ≤ maxLen) (by kernel_rfl) (by kernel_rfl) (by omega) (fun l _ => entC_len l) (fun fuel cs x h => by
    obtain ⟨hl, hf⟩ := trod_fields (l := [(ty_string, 0), (ty_string, 1)]) (by kernel_rfl) h
    obtain ⟨_, _, t0⟩ := hf 0 _ _ rfl
    obtain ⟨_, _, t1⟩ := hf 1 _ _ rfl
    have e1 : Tryz.prog.cellsOf ty_string = 1 := by kernel_rfl
    have e2 : Tryz.prog.cellsOf ty_laws_Entry = 2 := by kernel_rfl
    rw [e1] at t0 t1
    rw [e2] at hl
    rw [List.drop_zero] at t0
    have hst : Tryz.prog.underlying ty_string = some .string := by kernel_rfl
    obtain ⟨c0, hc0, _, hw0⟩ := DataW.trod_string hst t0
    obtain ⟨c1, hc1, _, hw1⟩ := DataW.trod_string hst t1
    refine ⟨(c0, c1), ?_, hw0, hw1⟩
    show cs = [.string c0, .string c1]
    rw [← List.take_append_drop 1 cs, hc0]
    have hd : cs.drop 1 = [.string c1] := by rw [← hc1, List.take_of_length_le (by simp; omega)]
    rw [hd]
    rfl) h
  exact ⟨s, es, h1, h2, h3, h4⟩
theorem trod_EntrySS {H : Type} {enc : TypeId × Value → H} {w : World} {base : Nat} {spare : Nat → Bool} {held : Bool} {fuel : Nat} {cs : List Value} {x : DataW H × List MemPlace} (h : DataW.trod enc Tryz.prog w base spare held fuel ty_sl_sl_laws_Entry cs = some x) : ∃ (s : Sl) (X : List (List PE)), cs = [.slice s.a s.n s.c] ∧ RawEntrySS w s X := by
  obtain ⟨s, rs, h1, h2, h3, h4⟩ := trod_sl (α := ER) (u := ty_sl_laws_Entry) (z := 1) (cells := ER.cells) (ok := fun r => RawEntryS w r.d r.es) (by kernel_rfl) (by kernel_rfl) (by omega) (fun r _ => ercells_len r) (fun fuel cs x h => by
    obtain ⟨d, l, hd, k⟩ := open_Entries h
    exact ⟨⟨d, l⟩, hd, k⟩) h
  exact ⟨s, rs.map ER.es, h1, rs, rfl, ⟨h2, fun r hr => (h4 r hr).rd⟩, h3, h4⟩
end Go.Proofs.YtaadgdbegpmlmaaGreat

namespace Go.Proofs.YtaadgdbegpmlmaaGreat
open Go.Sx Go.RowKit
open Go.ChangeShapes Go.WideShapes Go.ChangeAt Go.Deep

abbrev PL := List Int × Int
def leaseC (l : PL) : List Value := u8s l.1 ++ [.int .i64 l.2]
theorem leaseC_len {l : PL} (h : keyOk l.1) : (leaseC l).length = 33 := by unfold leaseC; rw [List.length_append, u8s_len, h.1]; rfl
theorem lease_til {l : PL} (h : keyOk l.1) : (leaseC l)[32]? = some (.int .i64 l.2) := by
  unfold leaseC
  have e : (u8s l.1).length = 32 := by rw [u8s_len]; exact h.1
  rw [List.getElem?_append_right (by omega), e]
  rfl
structure LsR (w : World) (s : Sl) (ls : List PL) : Prop where
  of : SlOf w s 33 leaseC ls
  ok : ∀ l ∈ ls, keyOk l.1
theorem LsR.at {w w' : World} {bl : List Blk} {s : Sl} {ls : List PL} (h : LsR w s ls) (hA : At w w' bl) : LsR w' s ls := ⟨h.of.below hA.below, h.ok⟩
theorem LsR.n {w : World} {s : Sl} {ls : List PL} (h : LsR w s ls) : s.n = ls.length := h.of.n
theorem LsR.get {w : World} {s : Sl} {ls : List PL} (h : LsR w s ls) {i : Nat} (hi : i < ls.length) : ∃ l p, ls[i]? = some l ∧ l ∈ ls ∧ s.a = some p ∧ keyOk l.1 ∧ ldOk w 33 (p.add (i * 33)) .agg (leaseC l).toArray ∧ ldOk w 32 ((p.add (i * 33)).add 0) .agg (u8s l.1).toArray ∧ ldOk w 1 ((p.add (i * 33)).add 32) (.int .i64) l.2 := by
  have hk : ls[i]? = some ls[i] := List.getElem?_eq_getElem hi
  obtain ⟨p, hp, _⟩ := h.of.cell hk
  have ha := h.of.agg hk hp
  have hko := h.ok _ (List.getElem_mem hi)
  refine ⟨_, p, hk, List.getElem_mem hi, hp, hko, ha, ⟨by simp [hko.1], fun j v hv => ?_⟩, ha.2 32 _ (by rw [List.getElem?_toArray]; exact lease_til hko)⟩
  rw [Go.Deep.add_add, Nat.zero_add]
  refine ha.2 j v ?_
  rw [List.getElem?_toArray] at hv ⊢
  unfold leaseC
  rw [List.getElem?_append_left (List.getElem?_eq_some_iff.1 hv).1]
  exact hv

def RdLeaseS (w : World) (s : Sl) (ls : List PL) : Prop := LsR w s ls
theorem RdLeaseS.at {w w' : World} {bl : List Blk} {s : Sl} {ls : List PL} (h : RdLeaseS w s ls) (hA : At w w' bl) : RdLeaseS w' s ls := LsR.at h hA
def OwnLeaseS (s : Sl) (ls : List PL) (L : List Blk) : Prop := OwnS ty_impl_Lease 33 s (ls.flatMap leaseC) L ∧ ∀ l ∈ ls, keyOk l.1
theorem OwnLeaseS.rd {w0 w : World} {s : Sl} {ls : List PL} {L bl : List Blk} (h : OwnLeaseS s ls L) (hA : At w0 w (L ++ bl)) : RdLeaseS w s ls := ⟨h.1.of hA (List.sublist_append_left _ _) (fun l hl => leaseC_len (h.2 l hl)) (by omega), h.2⟩
def RawLeaseS (w : World) (s : Sl) (ls : List PL) : Prop := LsR w s ls ∧ s.n ≤ s.c ∧ s.c ≤ maxLen
theorem RawLeaseS.rd {w : World} {s : Sl} {ls : List PL} (h : RawLeaseS w s ls) : RdLeaseS w s ls := h.1
theorem set_key {A K B : List Value} {n m : Nat} {v : Value} (hA : A.length = n) (hm : m < K.length) : (A ++ (K ++ B)).take (n + m) ++ [v] ++ (A ++ (K ++ B)).drop (n + m + 1) = A ++ (K.set m v ++ B) := by
  have h : (A ++ (K ++ B)).set (n + m) v = A ++ (K.set m v ++ B) := by
    rw [List.set_append_right _ _ (by omega), hA, Nat.add_sub_cancel_left, List.set_append_left _ _ hm]
  rw [← h, List.set_eq_take_append_cons_drop, if_pos (by simp only [List.length_append]; omega), List.append_assoc]
  rfl
theorem marks_set {k : Int} {m : Nat} {key : List Int} (hk : key.length = 32) (hm : m < 32) : (u8s (marks k m ++ key.drop m)).set m (.int .u8 ((k + (m : Int)) % 256)) = u8s (marks k (m + 1) ++ key.drop (m + 1)) := by
  have hd : key.drop m = key[m] :: key.drop (m + 1) := List.drop_eq_getElem_cons (by omega)
  unfold u8s
  rw [List.map_append, List.set_append_right _ _ (by rw [List.length_map, marks_len]; omega), List.length_map, marks_len, Nat.sub_self, hd, List.map_cons, List.set_cons_zero, marks_succ, List.append_assoc, List.map_append]
  rfl

end Go.Proofs.YtaadgdbegpmlmaaGreat

namespace Go.Proofs.YtaadgdbegpmlmaaGreat
open Go.Sx Go.RowKit

def emptyKey : List Int := hashL 5 []
theorem emptyKey_ok : keyOk emptyKey := ⟨hashL_len _ _, hashL_ok _ _⟩
theorem c_EmptyMapKey (w : World) : Ret Tryz.prog n_impl_EmptyMapKey [] w [.agg] (fun r _ => r = (u8s emptyKey).toArray) := impl_EmptyMapKey_calls (by
  unfold impl_EmptyMapKey
  refine r_new (At.refl w) fun b0 w1 h => ?_
  refine r_call h (c_hash 5 (s := ⟨none, 0, 0⟩) (d := []) ⟨by simp [u8s], fun j v hv => by simp [u8s] at hv⟩ (fun b hb => by cases hb) (by simp)) fun r w2 h _ hr => ?_
  subst hr
  refine r_stA h 0 rfl rfl (by simp [hashL_len]) (by simp [Value.cells]) (by simpa using u8s_one) fun w3 h => ?_
  refine r_ldA h 0 rfl rfl (by simp [hashL_len]) ?_
  exact r_ret h.nil _ rfl rfl)
theorem c_l04Empty (w : World) : Ret Tryz.prog n_spec_l04Empty [] w [.agg] (fun r _ => r = (u8s emptyKey).toArray) := spec_l04Empty_calls (by
  unfold spec_l04Empty
  refine r_new (At.refl w) fun b0 w1 h => ?_
  refine r_bs0 T_sl_uint8' h fun y w2 hy hyn => ?_
  refine r_call hy.at_ (c_l01Hash 5 (d := []) hy.sl (fun b hb => by cases hb) (by simp)) fun r w2 h _ hr => ?_
  subst hr
  refine r_stA h 0 rfl rfl (by simp [hashL_len]) (by simp [Value.cells]) (by simpa using u8s_one) fun w3 h => ?_
  refine r_ldA h 0 rfl rfl (by simp [hashL_len]) ?_
  exact r_ret h.nil _ rfl rfl)

end Go.Proofs.YtaadgdbegpmlmaaGreat

namespace Go.Sx
theorem SlO.base {w0 w : World} {ls : List Blk} {e z : Nat} {s : Sl} {xs : List Value} (h : SlO w0 w ls e z s xs) : SlO w0 w [] e z s xs := by
  obtain ⟨L, hO, hA⟩ := h.split
  exact hO.slo (ls := []) (by simpa using hA.left)
end Go.Sx
namespace Go.Proofs.YtaadgdbegpmlmaaGreat
open Go.Sx Go.RowKit

def notEmpty (k : List Int) : Bool := !decide (k = emptyKey)
def byte0 (d : List Int) : Nat := (d.getD 0 0).toNat
def links (b : PB) : List (List Int) :=
  if b.tag = 2 then (if b.data.length = 64 then keysN b.data 0 2 else [])
  else if b.tag = 5 then (if nodeOk b.data then [part32 b.data 0, part32 b.data 32].filter notEmpty else [])
  else if b.tag = 6 then (if b.data.length % 32 = 0 then keysN b.data 0 (b.data.length / 32) else [])
  else if b.tag = 7 then (if 1 ≤ b.data.length ∧ 1 + 32 * byte0 b.data ≤ b.data.length then keysN b.data 1 (byte0 b.data) else [])
  else []
theorem links_len (b : PB) : (links b).length ≤ b.data.length := by
  unfold links
  split
  · split
    · rw [keysN_len]; omega
    · simp
  split
  · split
    · rename_i hn
      have h1 := hn.1
      have := List.length_filter_le notEmpty [part32 b.data 0, part32 b.data 32]
      simp only [List.length_cons, List.length_nil] at this
      omega
    · simp
  split
  · split
    · rw [keysN_len]; omega
    · simp
  split
  · split
    · rw [keysN_len]; omega
    · simp
  · simp

theorem getD_byte {d : List Int} (hb : bytesOk d) {i : Nat} (h : i < d.length) : 0 ≤ d.getD i 0 ∧ d.getD i 0 < 256 := hb _ (by simp only [List.getD, List.getElem?_eq_getElem h, Option.getD_some]; exact List.getElem_mem _)

end Go.Proofs.YtaadgdbegpmlmaaGreat

namespace Go.Sx
open Go.RowKit (Below)
variable {P : Program} {R : Value → World → Prop} {w0 w : World} {ls : List Blk}

theorem lt_of_get {h : Array Obj} {r : Nat} {o : Obj} (hM : h[r]? = some o) : r < h.size := by
  rcases Nat.lt_or_ge r h.size with h' | h'
  · exact h'
  · rw [Array.getElem?_eq_none h'] at hM; cases hM
theorem _root_.Go.RowKit.Below.keeps {w w' : World} {r : Nat} {o : Obj} (hb : Below w.heap.size w w') (hM : w.heap[r]? = some o) : w'.heap[r]? = some o := by rw [hb.block r (lt_of_get hM)]; exact hM

theorem r_bs1M {r : Nat} {o : Obj} {t e z by_ : Nat} (hM : w.heap[r]? = some o) (hT : SlT P t e z by_) (hA : At w0 w ls) {v : Value} (hv : v.cells.size = z) (hz : z ≤ 16777216) {k : Sl → World → Prop} (h : ∀ s w', SlO w0 w' ls e z s v.cells.toList → s.n = 1 → w'.heap[r]? = some o → k s w') :
    ((real P R).sem (Instr.buildSlice t 1 #[(0, v)]) .slice k : World → Prop) w :=
  ⟨⟨some ⟨w.heap.size, 0, none⟩, 1, 1⟩, _, run_bs1 hT hv hz w, h _ _ (SlO.made hA (below_alloc w _) (heap_alloc_self w _) (Nat.le_refl _) (by simp [hv]) (Nat.le_refl _) (by unfold maxLen; omega) (by simp [hv]) (by rw [List.take_of_length_le (by simp)])) rfl ((below_alloc w _).keeps hM)⟩

def arrK (k : List Int) : Value := .agg (k.map (Value.int .u8)).toArray
def MapIs (o : Obj) (m : List (List Int × Value)) : Prop := ∃ es clk, o = .map es clk ∧ es.toList.map (fun e => (e.key, e.val)) = m.map fun p => (arrK p.1, p.2)
theorem MapIs.no {o : Obj} {m : List (List Int × Value)} (h : MapIs o m) : ∀ c e f, o ≠ .cells c e f := by obtain ⟨es, clk, rfl, _⟩ := h; intro c e f hh; cases hh
theorem MapIs.nil (c : Nat) : MapIs (.map #[] c) [] := ⟨#[], c, rfl, rfl⟩

end Go.Sx

namespace Go.Proofs.YtaadgdbegpmlmaaGreat
open Go.Sx Go.RowKit

def blobAt (B : List PB) (k : List Int) : PB := B.getD (posK (keysOf B) k) ⟨0, []⟩
structure MetOk (B : List PB) (x : List Int) (s : List (List Int) × List Nat) : Prop where
  nodup : s.1.Nodup
  inB : ∀ k ∈ s.1, k ∈ keysOf B
  len : s.1.length = s.2.length
  first : s.1[0]? = some x
  par : ∀ j p, 0 < j → s.2[j]? = some p → p < j
end Go.Proofs.YtaadgdbegpmlmaaGreat

namespace Go.Proofs.YtaadgdbegpmlmaaGreat
open Go.Sx Go.RowKit

theorem c_l01Has {w : World} {s : Sl} {ks : List (List Int)} {k : List Int} (hs : KsR w s ks) (hk : keyOk k) (hmax : ks.length ≤ 1073741824) : Ret Tryz.prog n_spec_l01Has [.slice s.a s.n s.c, .agg (u8s k).toArray] w [.bool] (fun r _ => r = decide (k ∈ ks)) := spec_l01Has_calls _ _ (by
  unfold spec_l01Has
  have hn := hs.n
  refine r_new (At.refl w) fun b3 w1 h => ?_
  refine r_loop (σ := Int) (fun i w' => ∃ j : Nat, i = j ∧ j ≤ ks.length ∧ k ∉ ks.take j ∧ At w w' [(b3, (u8s k).toArray, ty_impl_Key)]) (fun i _ => (s.n - i).toNat) 0 rfl ⟨0, rfl, by omega, by simp, h⟩ ?_
  rintro i w2 ⟨j, rfl, hj, hnot, h⟩
  refine r_any fun _ => ?_
  refine r_if ((j : Int) < (s.n : Int)) rfl (fun hlt => ?_) (fun hge => ?_)
  · refine r_draw h fun w3 h => ?_
    obtain ⟨x, q, hx, hxm, hq, hxo, hxl⟩ := (hs.at h).get (i := j) (by omega)
    refine r_ix q hq (by omega) (by omega) ?_
    refine r_ldN (u8s x).toArray (by simp only [Int.toNat_natCast]; exact hxl) ?_
    refine r_ldA h 0 rfl rfl (by simp [hk.1]) ?_
    refine r_pur _ (fun w' => run_eql_key _ _ hxo.1 hk.1 w') ?_
    by_cases he : x = k
    · subst he
      refine r_true (decide_eq_true rfl) ?_
      exact r_ret h.nil true rfl (decide_eq_true hxm).symm
    · refine r_false (decide_eq_false he) ?_
      refine ⟨((j + 1 : Nat) : Int), by rw [w64 (by omega) (by omega)]; rfl, ⟨j + 1, rfl, by omega, ?_, h⟩, by omega⟩
      rw [take_succ_get hx, List.mem_append, List.mem_singleton]
      rintro (hh | hh)
      · exact hnot hh
      · exact he hh.symm
  · have : j = ks.length := by omega
    subst this
    rw [List.take_of_length_le (Nat.le_refl _)] at hnot
    exact r_ret h.nil false rfl (decide_eq_false hnot).symm)

theorem flatMap_cut {α : Type} {z : Nat} {f : α → List Value} (n : Nat) : ∀ ys : List α, (∀ x ∈ ys, (f x).length = z) → (ys.flatMap f).take (n * z) = (ys.take n).flatMap f ∧ (ys.flatMap f).drop (n * z) = (ys.drop n).flatMap f := by
  induction n with
  | zero => intro ys _; simp
  | succ n ih =>
    intro ys hy
    cases ys with
    | nil => simp
    | cons y r =>
      have hz := hy y (by simp)
      obtain ⟨i1, i2⟩ := ih r (fun x hx => hy x (by simp [hx]))
      rw [List.flatMap_cons, Nat.add_mul, Nat.one_mul, Nat.add_comm, List.take_succ_cons, List.drop_succ_cons, List.flatMap_cons]
      constructor
      · rw [List.take_append, hz, List.take_of_length_le (by omega), Nat.add_sub_cancel_left, i1]
      · rw [List.drop_append, hz, List.drop_eq_nil_of_le (by omega), Nat.add_sub_cancel_left, i2, List.nil_append]
theorem flatMap_set {α : Type} {z : Nat} {f : α → List Value} {l : List α} (hl : ∀ x ∈ l, (f x).length = z) {i : Nat} (hi : i < l.length) (y : α) : (l.flatMap f).take (i * z) ++ f y ++ (l.flatMap f).drop (i * z + z) = (l.set i y).flatMap f := by
  rw [show i * z + z = (i + 1) * z by rw [Nat.add_mul, Nat.one_mul], (flatMap_cut i l hl).1, (flatMap_cut (i + 1) l hl).2, List.set_eq_take_append_cons_drop, if_pos hi]
  simp

end Go.Proofs.YtaadgdbegpmlmaaGreat

namespace Go.Proofs.YtaadgdbegpmlmaaGreat
open Go.Sx Go.RowKit

end Go.Proofs.YtaadgdbegpmlmaaGreat

namespace Go.Proofs.YtaadgdbegpmlmaaGreat
open Go.Sx Go.RowKit

end Go.Proofs.YtaadgdbegpmlmaaGreat

namespace Go.Proofs.YtaadgdbegpmlmaaGreat
open Go.Sx Go.RowKit

theorem nodup_le {α : Type} [DecidableEq α] : ∀ {s t : List α}, s.Nodup → (∀ x ∈ s, x ∈ t) → s.length ≤ t.length
  | [], t, _, _ => Nat.zero_le _
  | x :: s, t, hn, hs => by
    rw [List.nodup_cons] at hn
    have hx : x ∈ t := hs x (by simp)
    have ih := nodup_le (s := s) (t := t.erase x) hn.2 fun y hy => (List.mem_erase_of_ne (fun e : y = x => hn.1 (by rw [← e]; exact hy))).2 (hs y (by simp [hy]))
    rw [List.length_erase_of_mem hx] at ih
    have : 0 < t.length := List.length_pos_of_mem hx
    rw [List.length_cons]
    omega

theorem MetOk.le {B : List PB} {x : List Int} {s : List (List Int) × List Nat} (h : MetOk B x s) : s.1.length ≤ B.length := by
  have := nodup_le h.nodup h.inB
  rwa [keysOf_len] at this
end Go.Proofs.YtaadgdbegpmlmaaGreat
